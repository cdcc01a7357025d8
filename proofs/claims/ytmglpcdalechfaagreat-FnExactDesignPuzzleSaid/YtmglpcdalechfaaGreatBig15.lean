/- The rules by which a function runs without memory, and that the machine does what they say. No condition. -/
import Derived.Test.YtmglpcdalechfaaGreatBigM
import Derived.Orders
set_option linter.unusedVariables false
set_option linter.unusedSimpArgs false
namespace Go.Big

/-- A value as a callee sees it that does not change what it is handed. -/
def scalB : PV → Bool
  | .sl _ => false
  | .ob _ _ => false
  | _ => true
/-- A leaf as a callee sees it. -/
def derP (H : Heap) : PV → Option PV
  | .ob o e => match H o with
    | some (.arr e0 _ _ rows t) => if e = e0 ∧ t ≠ 2 then some (.sl rows) else none
    | some (.fro e0 rows _) => if e = e0 then some (.sl rows) else none
    | _ => none
  | p => some p
def derR (f : PV → Option PV) (rows : List (List PV)) : Option (List (List PV)) :=
  if rows.all (fun r => r.all fun p => (f p).isSome) then some (rows.map fun r => r.map fun p => (f p).getD p) else none
mutual
def giveA (H : Heap) : AV → Option AV
  | .i k n => some (.i k n)
  | .b x => some (.b x)
  | .s x => some (.s x)
  | .nil => some (.sl 0 [])
  | .sl _ rows => some (.sl 0 rows)
  | .own o e => match H o with
    | some (.arr e0 _ _ rows t) => if e = e0 then (if t = 2 then (derR (derP H) rows).map (.sl 0) else some (.sl 0 rows)) else none
    | some (.fro e0 rows _) => if e = e0 then some (.sl 0 rows) else none
    | _ => none
  | .vw o e lo n => match H o with
    | some (.arr e0 _ _ rows t) => if e = e0 then (if t = 2 then none else some (.sl 0 ((rows.drop lo).take n))) else none
    | some (.fro e0 rows _) => if e = e0 then some (.sl 0 ((rows.drop lo).take n)) else none
    | _ => none
  | .ag xs => (givesA H xs).map .ag
  | .fn f caps => (givesA H caps).map (.fn f)
  | _ => none
def givesA (H : Heap) : List AV → Option (List AV)
  | [] => some []
  | x :: xs => match giveA H x, givesA H xs with
    | some y, some ys => some (y :: ys)
    | _, _ => none
end
/-- What a callee hands back, in new memory. -/
def newB (t : Nat) (rows : List (List PV)) : Prop := t = 1 ∨ (∀ r ∈ rows, ∀ p ∈ r, scalB p = true)
instance (t : Nat) (rows : List (List PV)) : Decidable (newB t rows) := by unfold newB; infer_instance
def derN (H : Heap) : PV → Option PV
  | .ob o e => match H o with
    | some (.arr e0 _ _ rows t) => if e = e0 ∧ t ≠ 2 ∧ newB t rows then some (.sl rows) else none
    | some (.fro e0 rows t) => if e = e0 ∧ 1 ≤ t then some (.sl rows) else none
    | _ => none
  | .sl rows => if rows.isEmpty = true then some (.sl []) else none
  | p => some p
def newSl (H : Heap) : AV → Option AV
  | .sl t rows => if 1 ≤ t ∨ rows.isEmpty = true then some (.sl 1 rows) else none
  | .own o e => match H o with
    | some (.arr e0 _ _ rows t) => if e = e0 ∧ t ≠ 2 ∧ newB t rows then some (.sl 1 rows) else if e = e0 then (derR (derN H) rows).map (.sl 1) else none
    | some (.fro e0 rows t) => if e = e0 ∧ 1 ≤ t then some (.sl 1 rows) else none
    | _ => none
  | .vw o e lo n => match H o with
    | some (.arr e0 _ _ rows t) => if e = e0 ∧ t ≠ 2 ∧ newB t rows then some (.sl 1 ((rows.drop lo).take n)) else none
    | some (.fro e0 rows t) => if e = e0 ∧ 1 ≤ t then some (.sl 1 ((rows.drop lo).take n)) else none
    | _ => none
  | _ => none
mutual
def backA (H : Heap) : AV → Option AV
  | .i k n => some (.i k n)
  | .b x => some (.b x)
  | .s x => some (.s x)
  | .nil => some (.sl 1 [])
  | .sl t rows => newSl H (.sl t rows)
  | .own o e => newSl H (.own o e)
  | .vw o e lo n => newSl H (.vw o e lo n)
  | .ag xs => (backsA H xs).map .ag
  | .tup xs => (backsA H xs).map .tup
  | _ => none
def backsA (H : Heap) : List AV → Option (List AV)
  | [] => some []
  | x :: xs => match backA H x, backsA H xs with
    | some y, some ys => some (y :: ys)
    | _, _ => none
end
/-- What a callee made becomes the caller's own: objects get new numbers. -/
def shP (k : Nat) : PV → PV
  | .ob o e => .ob (o + k) e
  | p => p
/-- A leaf that lies in no frozen memory. -/
def goodP : PV → Bool
  | .sl rows => rows.isEmpty
  | _ => true
def bringO (k : Nat) : Ob → Option Ob
  | .arr e ty sz rows t => if t ≠ 2 ∧ newB t rows then some (.arr e ty sz rows t) else if (∀ r ∈ rows, ∀ p ∈ r, goodP p = true) then some (.arr e ty sz (rows.map fun r => r.map (shP k)) t) else some (.fro (e + 1) [] 0)
  | .fro e rows t => if 1 ≤ t then some (.fro e rows 1) else some (.fro (e + 1) [] 0)
  | .box .. => none
  | .mp f => some (.mp f)
def bringH (H Hc : Heap) (k : Nat) : Heap := fun o => if o < k then H o else (Hc (o - k)).bind (bringO k)
/-- Nothing from a number on. -/
def cutH (m : Nat) (H : Heap) : Heap := fun o => if o < m then H o else none
mutual
def bringA (k : Nat) : AV → Option AV
  | .i k n => some (.i k n)
  | .b x => some (.b x)
  | .s x => some (.s x)
  | .nil => some (.sl 1 [])
  | .sl t rows => if 1 ≤ t ∨ rows.isEmpty = true then some (.sl 1 rows) else none
  | .own o e => some (.own (o + k) e)
  | .vw o e lo n => some (.vw (o + k) e lo n)
  | .ag xs => (bringsA k xs).map .ag
  | .tup xs => (bringsA k xs).map .tup
  | _ => none
def bringsA (k : Nat) : List AV → Option (List AV)
  | [] => some []
  | x :: xs => match bringA k x, bringsA k xs with
    | some y, some ys => some (y :: ys)
    | _, _ => none
end
/-- What a function returns. -/
def resA (P : Program) (H : Heap) (E : Env) : List ResultVar → Option (List AV)
  | [] => some []
  | .tmp t :: rs => (resA P H E rs).map (E t :: ·)
  | .cell a t :: rs => match loadA P H t (E a), resA P H E rs with
    | some x, some xs => some (x :: xs)
    | _, _ => none
def retA (xs : List AV) : AV := match xs with
  | [x] => x
  | xs => .tup xs
/-- The function and the arguments of a call. -/
def calleeA (E : Env) (c : Call) : Option (FuncId × List AV) := match c.callee with
  | .value f => match look E f with
    | .fn g caps => some (g, c.args.toList.map (look E) ++ caps)
    | _ => none
  | _ => none
def argE (args : List AV) : Env := fun t => (args[t]?).getD .un

/-- An array of one's own is frozen: from then on it is read only. -/
def frzV (o e t : Nat) (rows : List (List PV)) : AV → AV
  | .own o' e' => if o' = o ∧ e' = e then .sl t rows else .own o' e'
  | x => x
def frzO (o e t : Nat) (rows : List (List PV)) : Ob → Ob
  | .box ty cells => .box ty (cells.map (frzV o e t rows))
  | x => x
def frzH (H : Heap) (o e t : Nat) (rows : List (List PV)) : Heap := fun k => if k = o then some (.fro (e + 1) [] 0) else (H k).map (frzO o e t rows)

/-- What is checked of a region whose operations may come up in any order. -/
def dep (os : Array Oper) (i j : Nat) : Bool := match os[i]? with
  | some o => o.after.any fun e => Region.binds .any e && e.on == j
  | none => false
def indep (os : Array Oper) : Bool := (List.range os.size).all fun i => match os[i]? with
  | none => true
  | some o => o.after.all (fun e => !Region.binds .any e || decide (e.on < i)) && (List.range os.size).all fun j => j == i || match (os[j]?).bind (·.dst) with
    | none => true
    | some t => (o.dst != some t) && (!(o.looksAt os).contains t || dep os i j || dep os j i)
/-- Operations that change the objects, and such as read none. -/
def mkOp : Op → Bool
  | .store .. | .alloc .. | .box .. | .buildSlice .. | .makeSlice .. => true
  | .call c => match c.callee with
    | .builtin .append => true
    | .builtin .clear => true
    | _ => false
  | _ => false
def memFree : Op → Bool
  | .move _ | .assign _ | .pick .. | .binOp .. | .unOp .. | .convert .. | .extract .. | .field .. => true
  | _ => false
def forced (os : Array Oper) : Nat → Nat → Nat → Bool
  | 0, _, _ => false
  | f + 1, i, j => match os[i]? with
    | some o => o.after.any fun e => Region.binds .any e && (e.on == j || forced os f e.on j)
    | none => false
/-- Operations that care for no object that the region makes: told by the slots they go to. -/
def stD (st : List Nat) (o : Oper) : Bool := match o.dst with
  | some d => st.contains d
  | none => false
/-- Calls of these functions are to make objects. -/
def mkF (fs : List Nat) (op : Op) : Bool := mkOp op || match op with
  | .call c => match c.callee with
    | .value (.func f) => fs.contains f
    | _ => false
  | _ => false
/-- Operations that change objects come up in one order, all that reads objects in its place. -/
def indepM (fs : List Nat) (st : List Nat) (os : Array Oper) : Bool := indep os && (List.range os.size).all fun j => match os[j]? with
  | none => true
  | some p => !mkF fs p.op || (List.range os.size).all fun i => match os[i]? with
    | none => true
    | some o => i == j || (memFree o.op || stD st o && !mkF fs o.op) || (if i < j then forced os os.size j i else forced os os.size i j)
/-- Objects that a drawn region writes, by label; which operation (told by its slot) writes which label, and reads which. -/
def wrL (wr : List (Nat × Nat)) (o : Oper) : Option Nat := match o.dst with
  | some d => wr.lookup d
  | none => wr.lookup 999999
def fpL (wr : List (Nat × Nat)) (rd : List (Nat × List Nat)) (o : Oper) : List Nat := (wrL wr o).toList ++ (match o.dst with
  | some d => (rd.lookup d).getD []
  | none => (rd.lookup 999999).getD [])
def Agrees (ob : List Nat) (fp : List Nat) (Hx H : Heap) : Prop := ∀ k, (∀ a, ob[a]? = some k → a ∈ fp) → Hx k = H k
/-- Operations that write what another one reads or writes come up in one order with it. -/
def indepL (wr : List (Nat × Nat)) (rd : List (Nat × List Nat)) (os : Array Oper) : Bool := indep os && (List.range os.size).all fun j => match (os[j]?).bind (wrL wr) with
  | none => true
  | some a => (List.range os.size).all fun i => match os[i]? with
    | none => true
    | some o => i == j || !(fpL wr rd o).contains a || (if i < j then forced os os.size j i else forced os os.size i j)
/-- What one operation of such a region does, told of the machine. -/
def OneM (P : Program) (fs st : List Nat) (n0 : Nat) (N : Nat) (i : Nat) (o : Oper) (E : Env) (y : AV) (H H1 : Heap) : Prop :=
  (mkF fs o.op = false → H1 = H) ∧ (∀ k, k < n0 → H1 k = H k) ∧ ∀ (Hx Hy : Heap), (Hx = H ∧ Hy = H1 ∨ (memFree o.op = true ∨ (stD st o = true ∧ mkF fs o.op = false) ∧ ∀ k, k < n0 → Hx k = H k) ∧ Hy = Hx) → ∀ (E' : Env), (∀ x ∈ o.op.operands, look E' x = look E x) → ∀ (M : Mem) (base : Nat) (a : Act), Ok M base → M.H = Hx → Er M N E' a → ∀ (K : Act → World → Prop) (Q : Exit → Act → World → Prop),
    (∀ M' v, M'.H = Hy → Step M M' → Ok M' base → Below base M.w M'.w → vrep M' y v → K (a.put o.dst v) M'.w) → o.wp P a M.w K Q
/-- Not the object that an operation writes. -/
def offW (ob : List Nat) (wr : List (Nat × Nat)) (o : Oper) (k : Nat) : Prop := ∀ a, wrL wr o = some a → ob[a]? ≠ some k
def OneL (P : Program) (ob : List Nat) (wr : List (Nat × Nat)) (rd : List (Nat × List Nat)) (N : Nat) (o : Oper) (E : Env) (y : AV) (H H1 : Heap) : Prop :=
  (∀ k, offW ob wr o k → H1 k = H k) ∧ ∀ (Hx : Heap), Agrees ob (fpL wr rd o) Hx H → ∀ (E' : Env), (∀ x ∈ o.op.operands, look E' x = look E x) → ∀ (M : Mem) (base : Nat) (a : Act), Ok M base → M.H = Hx → Er M N E' a → ∀ (K : Act → World → Prop) (Q : Exit → Act → World → Prop),
    (∀ M' v, (∀ k, offW ob wr o k → M'.H k = Hx k) → (∀ b k, wrL wr o = some b → ob[b]? = some k → M'.H k = H1 k) → Step M M' → Ok M' base → Below base M.w M'.w → vrep M' y v → K (a.put o.dst v) M'.w) → o.wp P a M.w K Q
inductive J where
  | ops (N : Nat) (os : Array Oper) (l : List Nat) (E : Env) (H : Heap) (n : Nat) (E' : Env) (H' : Heap) (n' : Nat)
  | code (N : Nat) (c : Code) (E : Env) (H : Heap) (n : Nat) (x : Exit) (E' : Env) (H' : Heap) (n' : Nat)
  | loop (N : Nat) (c : Code) (E : Env) (H : Heap) (n : Nat) (x : Exit) (E' : Env) (H' : Heap) (n' : Nat)
  | call (f : FuncId) (args : List AV) (H : Heap) (n : Nat) (r : AV) (H' : Heap) (n' : Nat)
  | opsq (N : Nat) (os : Array Oper) (l : List Nat) (E : Env) (H : Heap) (E' : Env)
  | opsl (ob : List Nat) (wr : List (Nat × Nat)) (rd : List (Nat × List Nat)) (N : Nat) (os : Array Oper) (l : List Nat) (E : Env) (H : Heap) (n : Nat) (E' : Env) (H' : Heap) (n' : Nat)
  | opsm (fs st : List Nat) (n0 : Nat) (N : Nat) (os : Array Oper) (l : List Nat) (E : Env) (H : Heap) (n : Nat) (E' : Env) (H' : Heap) (n' : Nat)

/-- Contracts of functions that are shown otherwise. -/
abbrev Gv := FuncId → List AV → Heap → Nat → AV → Heap → Nat → Prop
def exitB (id : Nat) : Exit → Exit
  | .exit id' => if id' = id then .normal else .exit id'
  | e => e
inductive Big (P : Program) (G : Gv) : J → Prop where
  | nil {N os E H n} : Big P G (.ops N os [] E H n E H n)
  | op {N os i l E H n E' H' n'} (o : Oper) (y : AV) (H1 : Heap) : os[i]? = some o → wantA os E o = some true → stepOp P H n (look E) o.op = some (y, H1) → dstOk N o.dst = true →
      Big P G (.ops N os l (putE E o.dst y) H1 (n + 1) E' H' n') → Big P G (.ops N os (i :: l) E H n E' H' n')
  | skip {N os i l E H n E' H' n'} (o : Oper) : os[i]? = some o → wantA os E o = some false → dstOk N o.dst = true →
      Big P G (.ops N os l (putE E o.dst (.tup [])) H n E' H' n') → Big P G (.ops N os (i :: l) E H n E' H' n')
  | mapr {N os i l E H n E' H' n'} (o : Oper) (y : AV) (H1 : Heap) : os[i]? = some o → wantA os E o = some true → MapStep P H n (look E) o.op y H1 → dstOk N o.dst = true →
      Big P G (.ops N os l (putE E o.dst y) H1 (n + 1) E' H' n') → Big P G (.ops N os (i :: l) E H n E' H' n')
  | callv {N os i l E H n E' H' n'} (o : Oper) (c : Call) (f : FuncId) (args args' : List AV) (r y : AV) (Hc : Heap) (nc : Nat) : os[i]? = some o → wantA os E o = some true → o.op = .call c → calleeA E c = some (f, args) → givesA H args = some args' →
      (∃ fn, P.funcs[f]? = some fn ∧ fn.body.isSome = true ∧ (fn.name == "runtime.NumGoroutine") = false) → Big P G (.call f args' (fun _ => none) 0 r Hc nc) → backA Hc r = some y → dstOk N o.dst = true →
      Big P G (.ops N os l (putE E o.dst y) H (n + 1) E' H' n') → Big P G (.ops N os (i :: l) E H n E' H' n')
  | callw {N os i l E H n E' H' n'} (o : Oper) (c : Call) (f : FuncId) (args args' : List AV) (r y : AV) (Hc : Heap) (nc m : Nat) : os[i]? = some o → wantA os E o = some true → o.op = .call c → calleeA E c = some (f, args) → givesA H args = some args' →
      (∃ fn, P.funcs[f]? = some fn ∧ fn.body.isSome = true ∧ (fn.name == "runtime.NumGoroutine") = false) → Big P G (.call f args' (fun _ => none) 0 r Hc nc) → bringA n r = some y → dstOk N o.dst = true → n + nc ≤ m →
      Big P G (.ops N os l (putE E o.dst y) (bringH H Hc n) m E' H' n') → Big P G (.ops N os (i :: l) E H n E' H' n')
  | calli {N os i l E H n E' H' n'} (o : Oper) (c : Call) (f : FuncId) (args : List AV) (r : AV) (H1 : Heap) (n1 : Nat) : os[i]? = some o → wantA os E o = some true → o.op = .call c → calleeA E c = some (f, args) →
      (∃ fn, P.funcs[f]? = some fn ∧ fn.body.isSome = true ∧ (fn.name == "runtime.NumGoroutine") = false) → Big P G (.call f args H n r H1 n1) → dstOk N o.dst = true →
      Big P G (.ops N os l (putE E o.dst r) H1 n1 E' H' n') → Big P G (.ops N os (i :: l) E H n E' H' n')
  | frz {N os l E H n E' H' n'} (o e : Nat) (ty : TypeId) (sz : Nat) (rows : List (List PV)) (t s : Nat) : H o = some (.arr e ty sz rows t) → (s = 0 ∨ s = 1 ∧ newB t rows) → t ≠ 2 →
      Big P G (.ops N os l (fun k => frzV o e s rows (E k)) (frzH H o e s rows) n E' H' n') → Big P G (.ops N os l E H n E' H' n')
  | trim {N os l E H n E' H' n'} (d o e lo m : Nat) (ty : TypeId) (sz : Nat) (rows : List (List PV)) (t : Nat) : E d = .vw o e lo m → H o = some (.arr e ty sz rows t) → 0 < m →
      Big P G (.ops N os l (setF E d (.own o (e + 1))) (H.upd o (.arr (e + 1) ty sz ((rows.drop lo).take m) t)) n E' H' n') → Big P G (.ops N os l E H n E' H' n')
  | trim0 {N os l E H n E' H' n'} (d o e lo : Nat) (ty : TypeId) (sz : Nat) (rows : List (List PV)) (t : Nat) : E d = .vw o e lo 0 → H o = some (.arr e ty sz rows t) →
      Big P G (.ops N os l (setF E d (.sl 1 [])) H n E' H' n') → Big P G (.ops N os l E H n E' H' n')
  | qnil {N os E H} : Big P G (.opsq N os [] E H E)
  | qop {N os i l E H E'} (o : Oper) (y : AV) : os[i]? = some o → wantA os E o = some true → opPure P H (look E) o.op = some y → dstOk N o.dst = true → Big P G (.opsq N os l (putE E o.dst y) H E') → Big P G (.opsq N os (i :: l) E H E')
  | qskip {N os i l E H E'} (o : Oper) : os[i]? = some o → wantA os E o = some false → dstOk N o.dst = true → Big P G (.opsq N os l (putE E o.dst (.tup [])) H E') → Big P G (.opsq N os (i :: l) E H E')
  | qcall {N os i l E H E'} (o : Oper) (c : Call) (f : FuncId) (args args' : List AV) (r y : AV) (Hc : Heap) (nc : Nat) : os[i]? = some o → wantA os E o = some true → o.op = .call c → calleeA E c = some (f, args) → givesA H args = some args' →
      (∃ fn, P.funcs[f]? = some fn ∧ fn.body.isSome = true ∧ (fn.name == "runtime.NumGoroutine") = false) → Big P G (.call f args' (fun _ => none) 0 r Hc nc) → backA Hc r = some y → dstOk N o.dst = true →
      Big P G (.opsq N os l (putE E o.dst y) H E') → Big P G (.opsq N os (i :: l) E H E')
  | drawn {N id os E H n E'} : P.follows .mixedOrders = true → indep os = true → Big P G (.opsq N os (List.range os.size) E H E') → Big P G (.code N (.region id os true) E H n .normal E' H n)
  | mnil {fs st n0 N os E H n} : Big P G (.opsm fs st n0 N os [] E H n E H n)
  | mop {fs st n0 N os i l E H n E' H' n'} (o : Oper) (y : AV) (H1 : Heap) : os[i]? = some o → wantA os E o = some true → stepOp P H n (look E) o.op = some (y, H1) → dstOk N o.dst = true → (∀ k, k < n0 → H1 k = H k) → stD st o = false → Big P G (.opsm fs st n0 N os l (putE E o.dst y) H1 (n + 1) E' H' n') → Big P G (.opsm fs st n0 N os (i :: l) E H n E' H' n')
  | mst {fs st n0 N os i l E H n E' H' n'} (o : Oper) (y : AV) : os[i]? = some o → wantA os E o = some true → stD st o = true → mkF fs o.op = false → (∀ Hx : Heap, (∀ k, k < n0 → Hx k = H k) → opPure P Hx (look E) o.op = some y) → dstOk N o.dst = true → Big P G (.opsm fs st n0 N os l (putE E o.dst y) H (n + 1) E' H' n') → Big P G (.opsm fs st n0 N os (i :: l) E H n E' H' n')
  | mskip {fs st n0 N os i l E H n E' H' n'} (o : Oper) : os[i]? = some o → wantA os E o = some false → dstOk N o.dst = true → Big P G (.opsm fs st n0 N os l (putE E o.dst (.tup [])) H n E' H' n') → Big P G (.opsm fs st n0 N os (i :: l) E H n E' H' n')
  | mcall {fs st n0 N os i l E H n E' H' n'} (o : Oper) (c : Call) (f : FuncId) (args args' : List AV) (r y : AV) (Hc : Heap) (nc : Nat) : os[i]? = some o → wantA os E o = some true → o.op = .call c → calleeA E c = some (f, args) → givesA H args = some args' →
      (∃ fn, P.funcs[f]? = some fn ∧ fn.body.isSome = true ∧ (fn.name == "runtime.NumGoroutine") = false) → Big P G (.call f args' (fun _ => none) 0 r Hc nc) → backA Hc r = some y → dstOk N o.dst = true → stD st o = false →
      Big P G (.opsm fs st n0 N os l (putE E o.dst y) H (n + 1) E' H' n') → Big P G (.opsm fs st n0 N os (i :: l) E H n E' H' n')
  | mcallw {fs st n0 N os i l E H n E' H' n'} (o : Oper) (c : Call) (f : FuncId) (args args' : List AV) (r y : AV) (Hc : Heap) (nc m : Nat) : os[i]? = some o → wantA os E o = some true → o.op = .call c → mkF fs (.call c) = true → calleeA E c = some (f, args) → givesA H args = some args' →
      (∃ fn, P.funcs[f]? = some fn ∧ fn.body.isSome = true ∧ (fn.name == "runtime.NumGoroutine") = false) → Big P G (.call f args' (fun _ => none) 0 r Hc nc) → bringA n r = some y → dstOk N o.dst = true → n + nc ≤ m → n0 ≤ n →
      Big P G (.opsm fs st n0 N os l (putE E o.dst y) (cutH m (bringH H Hc n)) m E' H' n') → Big P G (.opsm fs st n0 N os (i :: l) E H n E' H' n')
  | drawnm {N id os E H n E' H' n'} (fs st : List Nat) (n0 : Nat) : P.follows .mixedOrders = true → indepM fs st os = true → Big P G (.opsm fs st n0 N os (List.range os.size) E H n E' H' n') → Big P G (.code N (.region id os true) E H n .normal E' H' n')
  | msem {fs st n0 N os i l E H n E' H' n'} (o : Oper) (y : AV) (H1 : Heap) (m : Nat) : os[i]? = some o → wantA os E o = some true → dstOk N o.dst = true → ((∀ k, n ≤ k → H k = none) → (∀ k, m ≤ k → H1 k = none) ∧ OneM P fs st n0 N i o E y H H1) → Big P G (.opsm fs st n0 N os l (putE E o.dst y) H1 m E' H' n') → Big P G (.opsm fs st n0 N os (i :: l) E H n E' H' n')
  | lnil {ob wr rd N os E H n} : Big P G (.opsl ob wr rd N os [] E H n E H n)
  | lq {ob wr rd N os i l E H n E' H' n'} (o : Oper) (y : AV) : os[i]? = some o → wantA os E o = some true → wrL wr o = none → (∀ Hx : Heap, Agrees ob (fpL wr rd o) Hx H → opPure P Hx (look E) o.op = some y) → dstOk N o.dst = true → Big P G (.opsl ob wr rd N os l (putE E o.dst y) H (n + 1) E' H' n') → Big P G (.opsl ob wr rd N os (i :: l) E H n E' H' n')
  | lm {ob wr rd N os i l E H n E' H' n'} (o : Oper) (y : AV) (a X : Nat) (v : Ob) : os[i]? = some o → wantA os E o = some true → wrL wr o = some a → ob[a]? = some X → X ≤ n → (∀ b, ob[b]? = some n → b ∈ fpL wr rd o) → (∀ Hx : Heap, Agrees ob (fpL wr rd o) Hx H → stepOp P Hx n (look E) o.op = some (y, Hx.upd X v)) → dstOk N o.dst = true → Big P G (.opsl ob wr rd N os l (putE E o.dst y) (H.upd X v) (n + 1) E' H' n') → Big P G (.opsl ob wr rd N os (i :: l) E H n E' H' n')
  | lskip {ob wr rd N os i l E H n E' H' n'} (o : Oper) : os[i]? = some o → wantA os E o = some false → dstOk N o.dst = true → Big P G (.opsl ob wr rd N os l (putE E o.dst (.tup [])) H n E' H' n') → Big P G (.opsl ob wr rd N os (i :: l) E H n E' H' n')
  | lcall {ob wr rd N os i l E H n E' H' n'} (o : Oper) (c : Call) (f : FuncId) (args args' : List AV) (r y : AV) (Hc : Heap) (nc : Nat) : os[i]? = some o → wantA os E o = some true → wrL wr o = none → o.op = .call c → calleeA E c = some (f, args) → (∀ Hx : Heap, Agrees ob (fpL wr rd o) Hx H → givesA Hx args = some args') →
      (∃ fn, P.funcs[f]? = some fn ∧ fn.body.isSome = true ∧ (fn.name == "runtime.NumGoroutine") = false) → Big P G (.call f args' (fun _ => none) 0 r Hc nc) → backA Hc r = some y → dstOk N o.dst = true →
      Big P G (.opsl ob wr rd N os l (putE E o.dst y) H (n + 1) E' H' n') → Big P G (.opsl ob wr rd N os (i :: l) E H n E' H' n')
  | drawnl {N id os E H n E' H' n'} (ob : List Nat) (wr : List (Nat × Nat)) (rd : List (Nat × List Nat)) : P.follows .mixedOrders = true → indepL wr rd os = true → ob.Nodup → Big P G (.opsl ob wr rd N os (List.range os.size) E H n E' H' n') → Big P G (.code N (.region id os true) E H n .normal E' H' n')
  | lsem {ob wr rd N os i l E H n E' H' n'} (o : Oper) (y : AV) (H1 : Heap) (m : Nat) : os[i]? = some o → wantA os E o = some true → dstOk N o.dst = true → ((∀ k, n ≤ k → H k = none) → (∀ k, m ≤ k → H1 k = none) ∧ OneL P ob wr rd N o E y H H1) → Big P G (.opsl ob wr rd N os l (putE E o.dst y) H1 m E' H' n') → Big P G (.opsl ob wr rd N os (i :: l) E H n E' H' n')
  | cskip {N E H n} : Big P G (.code N .skip E H n .normal E H n)
  | region {N id os E H n E' H' n'} : Big P G (.ops N os (List.range os.size) E H n E' H' n') → Big P G (.code N (.region id os false) E H n .normal E' H' n')
  | seq {N a b E H n E1 H1 n1 x E' H' n'} : Big P G (.code N a E H n .normal E1 H1 n1) → Big P G (.code N b E1 H1 n1 x E' H' n') → Big P G (.code N (.seq a b) E H n x E' H' n')
  | seqx {N a b E H n x E' H' n'} : Big P G (.code N a E H n x E' H' n') → x ≠ .normal → Big P G (.code N (.seq a b) E H n x E' H' n')
  | cond {N c a b E H n x E' H' n'} (t : Bool) : look E c = .b t → Big P G (.code N (if t then a else b) E H n x E' H' n') → Big P G (.code N (.cond c a b) E H n x E' H' n')
  | block {N id c E H n x E' H' n'} : Big P G (.code N c E H n x E' H' n') → Big P G (.code N (.block id c) E H n (exitB id x) E' H' n')
  | cloop {N c E H n x E' H' n'} : Big P G (.loop N c E H n x E' H' n') → Big P G (.code N (.loop c) E H n x E' H' n')
  | lmore {N c E H n E1 H1 n1 x E' H' n'} : Big P G (.code N c E H n .normal E1 H1 n1) → Big P G (.loop N c E1 H1 n1 x E' H' n') → Big P G (.loop N c E H n x E' H' n')
  | lend {N c E H n x E' H' n'} : Big P G (.code N c E H n x E' H' n') → x ≠ .normal → Big P G (.loop N c E H n x E' H' n')
  | exit {N id E H n} : Big P G (.code N (.exit id) E H n (.exit id) E H n)
  | ret {N E H n} : Big P G (.code N .ret E H n .ret E H n)
  | call {f args H n E' H' n'} (fn : Func) (c : Code) (x : Exit) (xs : List AV) : P.funcs[f]? = some fn → fn.body = some c → args.length ≤ fn.ntmps → Big P G (.code fn.ntmps c (argE args) H n x E' H' n') → (x = .normal ∨ x = .ret) → resA P H' E' fn.results.toList = some xs →
      Big P G (.call f args H n (retA xs) H' n')
  | given {f args H n r H' n'} : G f args H n r H' n' → Big P G (.call f args H n r H' n')
end Go.Big
