/- Walks: Weights: PieceWeights, DoesRefute, FindWeighting: both programs. Condition: the given contracts hold. | A word more: an owned struct in a drawn region. No condition. | Weights: FindWeighting: both programs. Condition: the given contracts hold. | Numbers written into puzzles and placements; held in them. No condition. | Placements whose numbers are still those that were written. No condition. | Weightings handed over: turned, told, equal, marked. No condition. -/
import Derived.Test.YtmglpcdalechfaaGreatBO
import Derived.Test.YtmglpcdalechfaaGreatWk12
import Derived.Test.YtmglpcdalechfaaGreatBC
import Derived.Test.YtmglpcdalechfaaGreatWk10
import Derived.Test.YtmglpcdalechfaaGreatBigL2
import Derived.Test.YtmglpcdalechfaaGreatWk3
import Derived.Test.YtmglpcdalechfaaGreatWk5
import Derived.Test.YtmglpcdalechfaaGreatWk1
set_option linter.unusedVariables false
set_option linter.unusedSimpArgs false
section
open Go Go.Big
namespace Go.Proofs
set_option maxHeartbeats 2000000
def LLof (r : Shape) (l : List PieceM) : List (List (Int × List Int)) := (List.range l.length).map fun i : Nat => listB r i (formsP (l.getD i pc0))
def DDof (r : Shape) (l : List PieceM) (m : Int) (w : List Int) : List (List Int) := (LLof r l).map (pieceW m w)
theorem LL_len (r : Shape) (l : List PieceM) : (LLof r l).length = l.length := by simp [LLof]
theorem LL_at {r : Shape} {l : List PieceM} {i : Nat} {L : List (Int × List Int)} (h : (LLof r l)[i]? = some L) : ∃ p, l[i]? = some p ∧ L = listB r i (formsP p) := by
  have hi : i < l.length := by have := (List.getElem?_eq_some_iff.mp h).1; rwa [LL_len] at this
  refine ⟨l[i], List.getElem?_eq_getElem hi, ?_⟩
  unfold LLof at h
  rw [List.getElem?_map, List.getElem?_range hi] at h
  simp only [Option.map_some, Option.some.injEq] at h
  rw [← h, List.getD_eq_getElem?_getD, List.getElem?_eq_getElem hi]; rfl
theorem okL_of {r : Shape} {l : List PieceM} (h : puzzleS r l = true) {p : PieceM} (hp : p ∈ l) (i : Int) : OkL r.length (listB r i (formsP p)) := by
  obtain ⟨g1, g2, g3, g4, g5, g6, g8⟩ := puzzle_facts h
  refine ⟨by omega, by have := listB_len h hp i; omega, fun x hx => ?_⟩
  obtain ⟨_, h2, h3⟩ := listB_mem h hp hx
  have := (g8 p hp).2
  exact ⟨by omega, h3⟩
theorem weiM_five {m : Int} {w s : List Int} (h2 : 2 ≤ m) (h6 : m ≤ 6) : 0 ≤ weiM m w s ∧ weiM m w s ≤ 5 := by
  have := weiM_nn (w := w) (cells := s) h2
  omega
theorem puzzle_k8 {r : List (Int × Int)} {l : List PieceM} (h : puzzleS r l = true) : ∀ p ∈ l, 1 ≤ p.k ∧ p.k ≤ 8 := by
  intro p hp
  obtain ⟨i, hi, rfl⟩ := List.mem_iff_getElem.mp hp
  unfold puzzleS at h
  rw [Bool.and_eq_true] at h
  have := List.all_eq_true.mp h.2 i (List.mem_range.mpr hi)
  rw [Bool.and_eq_true, List.getD_eq_getElem?_getD, List.getElem?_eq_getElem hi] at this
  have h2 := this.1
  unfold pieceS at h2
  simp only [Option.getD_some, Bool.and_eq_true, decide_eq_true_eq] at h2
  omega
theorem okD_of {r : Shape} {l : List PieceM} (h : puzzleS r l = true) {m : Int} {w : List Int} (h2 : 2 ≤ m) (h6 : m ≤ 6) : OkD l (DDof r l m w) := by
  obtain ⟨g1, g2, g3, g4, g5, g6, g8⟩ := puzzle_facts h
  refine ⟨by simp [DDof, LL_len], by omega, fun D hD x hx => ?_, fun D hD => ?_, fun p hp => ?_⟩
  · obtain ⟨L, _, rfl⟩ := List.mem_map.mp hD
    obtain ⟨q, _, rfl⟩ := pieceW_mem hx
    exact weiM_five h2 h6
  · obtain ⟨L, hL, rfl⟩ := List.mem_map.mp hD
    obtain ⟨i, hi⟩ := List.mem_iff_getElem?.mp hL
    obtain ⟨p, hp, rfl⟩ := LL_at hi
    have h1 := pieceW_len m w (listB r i (formsP p))
    have h2 := listB_len h (List.mem_of_getElem? hp) i
    omega
  · have hk := puzzle_k8 h p hp
    omega
def inR (k : Int) (n : Nat) : Bool := inM k n
def codW (f : Bool) (r : Shape) (m : Int) (w : List Int) : Int := if f then (if weightB r.length m w then 0 else 2) else 1
def pwM (f : Bool) (r : Shape) (l : List PieceM) (m : Int) (w : List Int) (k : Int) : List Int × Int := if f then (if weightB r.length m w && inM k l.length then (pieceW m w (listB r k (formsP (l.getD k.toNat pc0))), 0) else ([], 2)) else ([], 1)
def drM (f : Bool) (r : Shape) (l : List PieceM) (m : Int) (w : List Int) : Bool × Int := if f then (if weightB r.length m w then (refM m w (l.map (·.k)) (DDof r l m w), 0) else (false, 2)) else (false, 1)
def qW (r : Shape) (l : List PieceM) (m k : Nat) : Bool := refM m (planeM r m ((k / m / m : Nat) : Int) ((k / m % m : Nat) : Int) ((k % m : Nat) : Int)) (l.map (·.k)) (DDof r l m (planeM r m ((k / m / m : Nat) : Int) ((k / m % m : Nat) : Int) ((k % m : Nat) : Int)))
def resW (r : Shape) : Option (Nat × Nat) → (Int × List Int) × Int
  | some (m, k) => (((m : Int), planeM r m ((k / m / m : Nat) : Int) ((k / m % m : Nat) : Int) ((k % m : Nat) : Int)), 0)
  | none => ((0, []), 4)
def fwM (f : Bool) (r : Shape) (l : List PieceM) : (Int × List Int) × Int := if f then resW r (findMK (qW r l) 5 2) else ((0, []), 1)
theorem l19Code_fn (G : Gv) (r : Shape) (l : List PieceM) (m : Int) (w : List Int) (hr : r.length < 1000000000) (hl : l.length < 1000000000) (hpl : ∀ p ∈ l, p.cs.length < 1000000000) (hw : w.length < 1000000000) :
    Gives Tryz.prog G 82 [.ag [.sl 0 (cells r), .sl 0 (pieces l)], .ag [.i .i64 m, .sl 0 (ints w)]] (.i .i64 (codW (fitsS r l) r m w)) := by
  refine .of (.body Tryz.func82 rfl (by simp [Tryz.ntmps82]) ?_)
  rw [Tryz.ntmps82, Tryz.results82]
  have hd := specDoesFit_fn G r l hr hl hpl
  have hi := l19Is_fn G r m w hr hw
  unfold codW
  replace hpl := Hid.mk hpl
  generalize fitsS r l = f at hd ⊢
  generalize weightB r.length m w = b at hi ⊢
  replace hd := Hid.mk hd
  replace hi := Hid.mk hi
  refine AL ?_
  refine CV hd.out ?_
  cases f with
  | true =>
    refine AL ?_
    refine CV hi.out ?_
    cases b with
    | true => refine AL ?_; simp [retA, backA]
    | false => refine AL ?_; simp [retA, backA]
  | false => refine AL ?_; simp [retA, backA]
theorem codW_zero {f : Bool} {r : Shape} {m : Int} {w : List Int} (h : codW f r m w = 0) : f = true ∧ weightB r.length m w = true := by
  unfold codW at h
  split at h
  · split at h
    · exact ⟨by assumption, by assumption⟩
    · simp at h
  · simp at h
theorem l19Piece_of (G : Gv) {r : Shape} {l : List PieceM} (hf : puzzleS r l = true) {i : Nat} {p : PieceM} (hp : l[i]? = some p) {m : Int} {w : List Int} (ok : OkW r.length m w) :
    Gives Tryz.prog G 84 [.ag [.sl 0 (cells r), .sl 0 (pieces l)], .ag [.i .i64 m, .sl 0 (ints w)], .i .i64 i] (.sl 1 (ints (pieceW m w (listB r i (formsP p))))) := by
  obtain ⟨g1, g2, g3, g4, g5, ⟨g6, g7⟩, g8⟩ := puzzle_facts hf
  have hpm := List.mem_of_getElem? hp
  exact l19Piece_fn G r l i m w _ ok (okL_of hf hpm i) (l12Of_fn G r l i p hp (g8 p hpm).1 (by have := (g8 p hpm).2; omega) g2 (by omega) (by omega) (by omega))
theorem l19Refutes_of (G : Gv) {r : Shape} {l : List PieceM} (hf : puzzleS r l = true) {m : Int} {w : List Int} (ok : OkW r.length m w) :
    Gives Tryz.prog G 89 [.ag [.sl 0 (cells r), .sl 0 (pieces l)], .ag [.i .i64 m, .sl 0 (ints w)]] (.b (refM m w (l.map (·.k)) (DDof r l m w))) := by
  have hg := (puzzle_facts hf).2.2.1
  refine l19Refutes_fn G r l m w _ ok (by omega) (okD_of hf ok.m2 ok.m6) (fun i D hD => ?_)
  unfold DDof at hD
  rw [List.getElem?_map] at hD
  obtain ⟨L, hL, rfl⟩ := Option.map_eq_some_iff.mp hD
  obtain ⟨p, hp, rfl⟩ := LL_at hL
  exact l19Piece_of G hf hp ok
theorem placementsOf_of (G : Gv) (hA : AllG G) {r : Shape} {l : List PieceM} (hf : puzzleS r l = true) {i : Nat} {p : PieceM} (hp : l[i]? = some p) :
    Gives Tryz.prog G 88 [.ag [.sl 0 (cells r), .sl 0 (pieces l)], .i .i64 i] (.sl 1 (places (listB r i (formsP p)))) := by
  obtain ⟨g1, g2, g3, g4, g5, g6, g8⟩ := puzzle_facts hf
  have hpm := List.mem_of_getElem? hp
  have := placementsOf_o G hA r l i p hp (g8 p hpm).1 (by have := (g8 p hpm).2; omega) g1 (by omega) (by omega) (listA_nodup' hf hpm _)
  rw [places_eq hf hpm] at this
  exact this.gives
theorem allLists_of (G : Gv) (hA : AllG G) {r : Shape} {l : List PieceM} (hf : puzzleS r l = true) :
    Gives Tryz.prog G 91 [.ag [.sl 0 (cells r), .sl 0 (pieces l)]] (.sl 1 (plRows (LLof r l))) := by
  have hg := (puzzle_facts hf).2.2.2.2.1
  refine allLists_fn G r l _ (by omega) (LL_len r l) (fun i L hL => ?_)
  obtain ⟨p, hp, rfl⟩ := LL_at hL
  exact placementsOf_of G hA hf hp
theorem refutes_of (G : Gv) (hA : AllH G) {r : Shape} {l : List PieceM} (hf : puzzleS r l = true) {m : Int} {w : List Int} (ok : OkW r.length m w) :
    Gives Tryz.prog G 90 [.ag [.i .i64 m, .sl 0 (ints w)], .ag [.sl 0 (cells r), .sl 0 (pieces l)], .sl 0 (plRows (LLof r l))] (.b (refM m w (l.map (·.k)) (DDof r l m w))) := by
  have hg := (puzzle_facts hf).2.2.1
  refine refutes_fn G r l m w _ _ ok (by omega) (okD_of hf ok.m2 ok.m6) (LL_len r l) (fun i L D hL hD => ?_)
  unfold DDof at hD
  rw [List.getElem?_map, hL] at hD
  simp only [Option.map_some, Option.some.injEq] at hD
  subst hD
  obtain ⟨p, hp, rfl⟩ := LL_at hL
  exact (different_o G hA r.length m w _ ok (okL_of hf (List.mem_of_getElem? hp) i)).gives
theorem specPieceWeights_fn (G : Gv) (r : Shape) (l : List PieceM) (m : Int) (w : List Int) (k : Int) (hr : r.length < 1000000000) (hl : l.length < 1000000000) (hpl : ∀ p ∈ l, p.cs.length < 1000000000) (hw : w.length < 1000000000) :
    Gives Tryz.prog G 24 [.ag [.sl 0 (cells r), .sl 0 (pieces l)], .ag [.i .i64 m, .sl 0 (ints w)], .i .i64 k] (.tup [.sl 1 (ints (pwM (fitsS r l) r l m w k).1), .i .i64 (pwM (fitsS r l) r l m w k).2]) := by
  refine .of (.body Tryz.func24 rfl (by simp [Tryz.ntmps24]) ?_)
  rw [Tryz.ntmps24, Tryz.results24]
  have hcod := l19Code_fn G r l m w hr hl hpl hw
  have hlen := pieces_len l
  by_cases c : codW (fitsS r l) r m w = 0
  · obtain ⟨c1, c2⟩ := codW_zero c
    have hf := fits_puzzle c1
    have ok := weightB_ok c2
    rw [c] at hcod
    have hw1 : IntKind.i64.wrap ((l.length : Int) - 1) = (l.length : Int) - 1 := wr64s (by omega) (by omega)
    by_cases ck : inM k l.length = true
    · have hres : pwM (fitsS r l) r l m w k = (pieceW m w (listB r k (formsP (l.getD k.toNat pc0))), 0) := by unfold pwM; rw [if_pos c1, c2, ck]; rfl
      rw [hres]
      have ck2 : (decide (k ≥ 0) && decide (k ≤ (l.length : Int) - 1)) = true := ck
      obtain ⟨k0, k1⟩ : 0 ≤ k ∧ k ≤ (l.length : Int) - 1 := by simpa using ck2
      obtain ⟨p, hp⟩ : ∃ p, l[k.toNat]? = some p := ⟨_, List.getElem?_eq_getElem (by omega)⟩
      have hkk : ((k.toNat : Nat) : Int) = k := Int.toNat_of_nonneg k0
      have hpc := l19Piece_of G hf hp ok
      rw [hkk] at hpc
      have hpd : l.getD k.toNat pc0 = p := by rw [List.getD_eq_getElem?_getD, hp]; rfl
      rw [hpd]
      clear hres c c1 c2 ck hpl hkk k0 k1
      replace hf := Hid.mk hf
      replace ok := Hid.mk ok
      replace hcod := Hid.mk hcod
      replace hpc := Hid.mk hpc
      refine AL ?_
      refine CV hcod.out ?_
      refine AL ?_
      refine CV (l01In_fn G _ _ _) ?_
      refine AL ?_
      refine CV hpc.out ?_
      refine AL ?_
      simp [retA, backA, backsA, newSl]
    · have hres : pwM (fitsS r l) r l m w k = ([], 2) := by unfold pwM; rw [if_pos c1, c2]; simp [ck]
      rw [hres]
      have ck2 : (decide (k ≥ 0) && decide (k ≤ (l.length : Int) - 1)) = false := by
        have : inM k l.length = false := by simpa using ck
        exact this
      clear hres c c1 c2 ck hpl
      replace hf := Hid.mk hf
      replace ok := Hid.mk ok
      replace hcod := Hid.mk hcod
      refine AL ?_
      refine CV hcod.out ?_
      refine AL ?_
      refine CV (l01In_fn G _ _ _) ?_
      refine AL ?_
      simp [retA, backA, backsA, ints]
  · have hres : pwM (fitsS r l) r l m w k = ([], codW (fitsS r l) r m w) := by
      revert c
      unfold pwM codW
      cases fitsS r l <;> cases weightB r.length m w <;> intro c <;> first | rfl | exact absurd rfl c | simp
    rw [hres]
    have c3 : (codW (fitsS r l) r m w == 0) = false := by simpa using c
    have c4 : (codW (fitsS r l) r m w != 0) = true := by simpa using c
    generalize codW (fitsS r l) r m w = cd at hcod c c3 c4 ⊢
    clear hres hpl
    replace hcod := Hid.mk hcod
    refine AL ?_
    refine CV hcod.out ?_
    refine AL ?_
    simp [retA, backA, backsA, ints]
theorem implPieceWeights_o (G : Gv) (hA : AllH G) (r : Shape) (l : List PieceM) (m : Int) (w : List Int) (k : Int) (hr : r.length < 1000000000) (hl : l.length < 1000000000) (hpl : ∀ p ∈ l, p.cs.length < 1000000000) (hw : w.length < 1000000000) :
    GivesO Tryz.prog G 26 [.ag [.sl 0 (cells r), .sl 0 (pieces l)], .ag [.i .i64 m, .sl 0 (ints w)], .i .i64 k] (.tup [.sl 1 (ints (pwM (fitsI r l) r l m w k).1), .i .i64 (pwM (fitsI r l) r l m w k).2]) := by
  refine .of (.body Tryz.func26 rfl (by simp [Tryz.ntmps26]) ?_)
  rw [Tryz.ntmps26, Tryz.results26]
  have hd := implDoesFit_fn G hA.c1 hA.c2 r l hr hl hpl
  have hi := isWeighting_fn G r m w hr hw
  have hlen := pieces_len l
  replace hA := Hid.mk hA
  cases cf : fitsI r l with
  | true =>
    have hf : puzzleS r l = true := fits_puzzle (by rw [← fits_eq]; exact cf)
    rw [cf] at hd
    have hw1 : IntKind.i64.wrap ((l.length : Int) - 1) = (l.length : Int) - 1 := wr64s (by omega) (by omega)
    cases cw : weightB r.length m w with
    | true =>
      have ok := weightB_ok cw
      rw [cw] at hi
      by_cases ck : inM k l.length = true
      · have hres : pwM true r l m w k = (pieceW m w (listB r k (formsP (l.getD k.toNat pc0))), 0) := by unfold pwM; rw [if_pos rfl, cw, ck]; rfl
        rw [hres]
        have ck2 : (decide (k ≥ 0) && decide (k ≤ (l.length : Int) - 1)) = true := ck
        obtain ⟨k0, k1⟩ : 0 ≤ k ∧ k ≤ (l.length : Int) - 1 := by simpa using ck2
        obtain ⟨p, hp⟩ : ∃ p, l[k.toNat]? = some p := ⟨_, List.getElem?_eq_getElem (by omega)⟩
        have hkk : ((k.toNat : Nat) : Int) = k := Int.toNat_of_nonneg k0
        have hpo := placementsOf_of G hA.out.toAllG hf hp
        rw [hkk] at hpo
        have hpd : l.getD k.toNat pc0 = p := by rw [List.getD_eq_getElem?_getD, hp]; rfl
        rw [hpd]
        have hdi := different_o G hA.out r.length m w _ ok (okL_of hf (List.mem_of_getElem? hp) k)
        generalize listB r k (formsP p) = L at hpo hdi ⊢
        clear hres cf cw ck hpl hkk k0 k1
        replace hf := Hid.mk hf
        replace ok := Hid.mk ok
        replace hd := Hid.mk hd
        replace hi := Hid.mk hi
        replace hpo := Hid.mk hpo
        replace hdi := Hid.mk hdi
        refine AL ?_
        refine CV hd.out ?_
        refine AL ?_
        refine CV hi.out ?_
        refine AL ?_
        refine CV (within_fn G _ _ _) ?_
        refine AX ?_
        refine DMF [87] [] 0 ?_
        refine AX ?_
        refine CM hpo.out ?_
        refine CWM hdi.out ?_
        intro z H1 S m' hz hn hS hf' hm'
        replace hz := Hid.mk hz
        refine AX ?_
        exact ⟨S, ownX_kt hz.out, hn⟩
      · have hres : pwM true r l m w k = ([], 2) := by unfold pwM; rw [if_pos rfl, cw]; simp [ck]
        rw [hres]
        have ck2 : (decide (k ≥ 0) && decide (k ≤ (l.length : Int) - 1)) = false := by
          have : inM k l.length = false := by simpa using ck
          exact this
        clear hres cf cw ck hpl
        replace hf := Hid.mk hf
        replace ok := Hid.mk ok
        replace hd := Hid.mk hd
        replace hi := Hid.mk hi
        refine AL ?_
        refine CV hd.out ?_
        refine AL ?_
        refine CV hi.out ?_
        refine AL ?_
        refine CV (within_fn G _ _ _) ?_
        refine AL ?_
        exact ⟨[], ownX_mkT (s1 := []) (ownX_sl ownA_nil) ownX_mki, by simp⟩
    | false =>
      have hres : pwM true r l m w k = ([], 2) := by unfold pwM; rw [if_pos rfl, cw]; rfl
      rw [hres]
      rw [cw] at hi
      clear hres cf cw hpl
      replace hf := Hid.mk hf
      replace hd := Hid.mk hd
      replace hi := Hid.mk hi
      refine AL ?_
      refine CV hd.out ?_
      refine AL ?_
      refine CV hi.out ?_
      refine AL ?_
      exact ⟨[], ownX_mkT (s1 := []) (ownX_sl ownA_nil) ownX_mki, by simp⟩
  | false =>
    have hres : pwM false r l m w k = ([], 1) := rfl
    rw [hres]
    rw [cf] at hd
    clear hres cf hpl hi
    replace hd := Hid.mk hd
    refine AL ?_
    refine CV hd.out ?_
    refine AL ?_
    exact ⟨[], ownX_mkT (s1 := []) (ownX_sl ownA_nil) ownX_mki, by simp⟩
theorem specDoesRefute_fn (G : Gv) (r : Shape) (l : List PieceM) (m : Int) (w : List Int) (hr : r.length < 1000000000) (hl : l.length < 1000000000) (hpl : ∀ p ∈ l, p.cs.length < 1000000000) (hw : w.length < 1000000000) :
    Gives Tryz.prog G 32 [.ag [.sl 0 (cells r), .sl 0 (pieces l)], .ag [.i .i64 m, .sl 0 (ints w)]] (.tup [.b (drM (fitsS r l) r l m w).1, .i .i64 (drM (fitsS r l) r l m w).2]) := by
  refine .of (.body Tryz.func32 rfl (by simp [Tryz.ntmps32]) ?_)
  rw [Tryz.ntmps32, Tryz.results32]
  have hcod := l19Code_fn G r l m w hr hl hpl hw
  by_cases c : codW (fitsS r l) r m w = 0
  · obtain ⟨c1, c2⟩ := codW_zero c
    have hrf := l19Refutes_of G (fits_puzzle c1) (weightB_ok c2)
    rw [c] at hcod
    have hres : drM (fitsS r l) r l m w = (refM m w (l.map (·.k)) (DDof r l m w), 0) := by unfold drM; rw [if_pos c1, if_pos c2]
    rw [hres]
    generalize refM m w (l.map (·.k)) (DDof r l m w) = z at hrf ⊢
    clear hres c c1 c2 hpl
    replace hcod := Hid.mk hcod
    replace hrf := Hid.mk hrf
    refine AL ?_
    refine CV hcod.out ?_
    refine AL ?_
    refine CV hrf.out ?_
    refine AL ?_
    simp [retA, backA, backsA]
  · have hres : drM (fitsS r l) r l m w = (false, codW (fitsS r l) r m w) := by
      revert c
      unfold drM codW
      cases fitsS r l <;> cases weightB r.length m w <;> intro c <;> first | rfl | exact absurd rfl c | simp
    rw [hres]
    have c4 : (codW (fitsS r l) r m w != 0) = true := by simpa using c
    generalize codW (fitsS r l) r m w = cd at hcod c c4 ⊢
    clear hres hpl
    replace hcod := Hid.mk hcod
    refine AL ?_
    refine CV hcod.out ?_
    refine AL ?_
    simp [retA, backA, backsA]
theorem implDoesRefute_fn (G : Gv) (hA : AllH G) (r : Shape) (l : List PieceM) (m : Int) (w : List Int) (hr : r.length < 1000000000) (hl : l.length < 1000000000) (hpl : ∀ p ∈ l, p.cs.length < 1000000000) (hw : w.length < 1000000000) :
    Gives Tryz.prog G 33 [.ag [.sl 0 (cells r), .sl 0 (pieces l)], .ag [.i .i64 m, .sl 0 (ints w)]] (.tup [.b (drM (fitsI r l) r l m w).1, .i .i64 (drM (fitsI r l) r l m w).2]) := by
  refine .of (.body Tryz.func33 rfl (by simp [Tryz.ntmps33]) ?_)
  rw [Tryz.ntmps33, Tryz.results33]
  have hd := implDoesFit_fn G hA.c1 hA.c2 r l hr hl hpl
  have hi := isWeighting_fn G r m w hr hw
  cases cf : fitsI r l with
  | true =>
    have hf : puzzleS r l = true := fits_puzzle (by rw [← fits_eq]; exact cf)
    rw [cf] at hd
    cases cw : weightB r.length m w with
    | true =>
      have hrf := refutes_of G hA hf (weightB_ok cw)
      have hal := allLists_of G hA.toAllG hf
      have hres : drM true r l m w = (refM m w (l.map (·.k)) (DDof r l m w), 0) := by unfold drM; rw [if_pos rfl, if_pos cw]
      rw [hres]
      rw [cw] at hi
      generalize refM m w (l.map (·.k)) (DDof r l m w) = z at hrf ⊢
      generalize LLof r l = Ls at hrf hal
      clear hres cf cw hpl hA
      replace hf := Hid.mk hf
      replace hd := Hid.mk hd
      replace hi := Hid.mk hi
      replace hrf := Hid.mk hrf
      replace hal := Hid.mk hal
      refine AL ?_
      refine CV hd.out ?_
      refine AL ?_
      refine CV hi.out ?_
      refine AL ?_
      refine CQ hal.out ?_
      refine CQ hrf.out ?_
      refine AL ?_
      simp [retA, backA, backsA]
    | false =>
      have hres : drM true r l m w = (false, 2) := by unfold drM; rw [if_pos rfl, cw]; rfl
      rw [hres]
      rw [cw] at hi
      clear hres cf cw hpl hA
      replace hf := Hid.mk hf
      replace hd := Hid.mk hd
      replace hi := Hid.mk hi
      refine AL ?_
      refine CV hd.out ?_
      refine AL ?_
      refine CV hi.out ?_
      refine AL ?_
      simp [retA, backA, backsA]
  | false =>
    have hres : drM false r l m w = (false, 1) := rfl
    rw [hres]
    rw [cf] at hd
    clear hres cf hpl hi hA
    replace hd := Hid.mk hd
    refine AL ?_
    refine CV hd.out ?_
    refine AL ?_
    simp [retA, backA, backsA]
end Go.Proofs
end
section
open Go Go.Big
namespace Go.Proofs
set_option maxHeartbeats 2000000
theorem FCA {ob : List Nat} {wr : List (Nat × Nat)} {rd : List (Nat × List Nat)} {N : Nat} {ds : List (Option Tmp)} {l : List Oper} {E : Env} {H : Heap} {n : Nat} {K : Env → Heap → Nat → Prop} {o : Oper} {c : Call} {f : FuncId} {args args' : List AV} {d : Nat} {G : Gv} (a : Nat)
    (hG : GvOk Tryz.prog G)
    (hF : WC Tryz.prog G f args' (fun _ => none) 0 (fun y Hc _ => ∃ kk mm oo e sz t ty rows, y = .ag [.i kk mm, .own oo e] ∧ Hc oo = some (.arr e ty sz rows t) ∧ newB t rows ∧ t ≠ 2 ∧ WF Tryz.prog G ob wr rd N ds l (setF E d (.ag [.i kk mm, .own n e])) (H.upd n (.arr e ty sz rows t)) (n + 1) K))
    (hop : o.op = .call c := by rfl) (hdst : o.dst = some d := by rfl) (hw : wantR ds E o.guard = some true := by exact vB)
    (hc : calleeA E c = some (f, args) := by exact vD)
    (hg : ∀ Hx : Heap, Agrees ob (fpL wr rd o) Hx H → givesA Hx args = some args' := by (intro Hx hx; exact vE))
    (hwr : wrL wr o = some a := by rfl) (hX : ob[a]? = some n := by rfl) (hnd : ob.Nodup := by assumption)
    (hf : (Tryz.prog.funcs[f]?).any (fun fn => fn.body.isSome && (fn.name != "runtime.NumGoroutine")) = true := by kernel_rfl)
    (hd : d < N := by decide) : WF Tryz.prog G ob wr rd N ds (o :: l) E H n K := by
  unfold WC at hF
  obtain ⟨y, Hc, nc, hb, kk, mm, oo, e, sz, t, ty, rows, rfl, hx, hnb, ht2, h⟩ := hF
  exact WF.sem (m := n + 1) hw (by rw [hdst]; simpa [dstOk] using hd) (fun hfree => ⟨fun k hk => by rw [Heap.upd_ne _ _ (by omega)]; exact hfree k (by omega), OneL_agI hG hop hwr hX (hfree n (Nat.le_refl _)) hnd hc hg (fn_of hf) hb hx hnb ht2⟩) (by rw [hdst]; exact h)
end Go.Proofs
end
section
open Go Go.Big
namespace Go.Proofs
set_option maxHeartbeats 2000000
/-- What is still to be asked, out of an answer for one modulus. -/
def contF (q : Nat → Nat → Bool) (m dr : Nat) : Option Nat → Option (Nat × Nat)
  | some k => some (m, k)
  | none => findMK q dr (m + 1)
theorem findMK_succ (q : Nat → Nat → Bool) (d m : Nat) : findMK q (d + 1) m = contF q m d (findK (q m) (m * m * m) 0) := by
  rw [findMK]
  cases findK (q m) (m * m * m) 0 <;> rfl
theorem findK_succ (q : Nat → Bool) (d k : Nat) : findK q (d + 1) k = if q k then some k else findK q d (k + 1) := rfl
theorem cub_le {m : Nat} (h : m ≤ 6) : m * m ≤ 36 ∧ m * m * m ≤ 216 := by
  have h1 : m * m ≤ 6 * 6 := Nat.mul_le_mul h h
  exact ⟨h1, Nat.mul_le_mul h1 h⟩
theorem quoN (k m : Nat) (hk : k < 1000000) : IntKind.i64.wrap (Int.tdiv (k : Int) (m : Int)) = ((k / m : Nat) : Int) := by
  have h : Int.tdiv (k : Int) (m : Int) = ((k / m : Nat) : Int) := by
    rw [Int.tdiv_eq_ediv_of_nonneg (by omega)]; rfl
  have h2 : k / m ≤ k := Nat.div_le_self _ _
  rw [h]
  generalize k / m = z at h2 ⊢
  exact wr64 (by omega) (by omega)
theorem remN (k m : Nat) : Int.tmod (k : Int) (m : Int) = ((k % m : Nat) : Int) := by
  rw [Int.tmod_eq_emod_of_nonneg (by omega)]; rfl
theorem specFindWeighting_fn (G : Gv) (r : Shape) (l : List PieceM) (hr : r.length < 1000000000) (hl : l.length < 1000000000) (hpl : ∀ p ∈ l, p.cs.length < 1000000000) :
    Gives Tryz.prog G 34 [.ag [.sl 0 (cells r), .sl 0 (pieces l)]] (.tup [.ag [.i .i64 (fwM (fitsS r l) r l).1.1, .sl 1 (ints (fwM (fitsS r l) r l).1.2)], .i .i64 (fwM (fitsS r l) r l).2]) := by
  refine .of (.body Tryz.func34 rfl (by simp [Tryz.ntmps34]) ?_)
  rw [Tryz.ntmps34, Tryz.results34]
  have hd := specDoesFit_fn G r l hr hl hpl
  cases cf : fitsS r l with
  | false =>
    rw [cf] at hd
    have hres : fwM false r l = ((0, []), 1) := rfl
    rw [hres]
    clear hres cf hpl
    replace hd := Hid.mk hd
    refine AL ?_
    refine CV hd.out ?_
    refine AL ?_
    simp [retA, backA, backsA, upd_if, ints]
  | true =>
    rw [cf] at hd
    have hf := fits_puzzle cf
    have hr40 := (puzzle_facts hf).2.2.1
    have hres : fwM true r l = resW r (findMK (qW r l) 5 2) := by unfold fwM; rw [if_pos rfl]
    rw [hres]
    have hRf : ∀ m k : Nat, 2 ≤ m → m ≤ 6 → Gives Tryz.prog G 89 [.ag [.sl 0 (cells r), .sl 0 (pieces l)], .ag [.i .i64 m, .sl 0 (ints (planeM r m ((k / m / m : Nat) : Int) ((k / m % m : Nat) : Int) ((k % m : Nat) : Int)))]] (.b (qW r l m k)) := fun m k h2 h6 =>
      l19Refutes_of G hf (planeM_ok (by omega) (by omega))
    have hPl : ∀ m k : Nat, 2 ≤ m → m ≤ 6 → Gives Tryz.prog G 92 [.sl 0 (cells r), .i .i64 m, .i .i64 ((k / m / m : Nat) : Int), .i .i64 ((k / m % m : Nat) : Int), .i .i64 ((k % m : Nat) : Int)] (.ag [.i .i64 m, .sl 1 (ints (planeM r m ((k / m / m : Nat) : Int) ((k / m % m : Nat) : Int) ((k % m : Nat) : Int)))]) := fun m k h2 h6 =>
      l19Plane_fn G r m _ _ _ (by omega) (by omega) (by omega)
    generalize hQ : qW r l = Q at hRf ⊢
    generalize hFIN : findMK Q 5 2 = FIN
    replace hFIN := Hid.mk hFIN
    replace hRf := Hid.mk hRf
    replace hPl := Hid.mk hPl
    replace hd := Hid.mk hd
    clear hres cf hpl hf hQ
    refine AL ?_
    refine CV hd.out ?_
    refine AL ?_
    refine .loop (.inv (fun d E H n' => ∃ m : Nat, m + d = 7 ∧ 2 ≤ m ∧ 2 < n' ∧ E 1 = .ptr 0 0 0 0 ∧ E 2 = .ptr 1 0 0 0 ∧ E 4 = .i .i64 m ∧ H 0 = some (.box 35 [.sl 0 (cells r), .sl 0 (pieces l)]) ∧ H 1 = some (.box 48 [.i .i64 0, .nil]) ∧ findMK Q d m = FIN) 5 ?_ ?_)
    · exact ⟨2, by omega, by omega, by omega, by simp [setF_if, argE], by simp [setF_if, argE], by simp [setF_if, argE], by simp [upd_if], by simp [upd_if], hFIN.out⟩
    clear hFIN
    rintro d E H n' ⟨m, hm, hm2, hnn, e1, e2, e4, hH0, hH1, hfin⟩
    by_cases cm : (m : Int) ≤ 6
    · have hw_m : IntKind.i64.wrap ((m : Int) + 1) = (m : Int) + 1 := wr64 (by omega) (by omega)
      obtain ⟨dr, rfl⟩ : ∃ dr, d = dr + 1 := ⟨d - 1, by omega⟩
      rw [findMK_succ] at hfin
      obtain ⟨q1, q2⟩ := cub_le (m := m) (by omega)
      have hm1 : IntKind.i64.wrap ((m : Int) * m) = ((m * m : Nat) : Int) := by rw [← Int.natCast_mul]; exact wr64 (by omega) (by omega)
      have hm3 : IntKind.i64.wrap (((m * m : Nat) : Int) * m) = ((m * m * m : Nat) : Int) := by rw [← Int.natCast_mul]; exact wr64 (by omega) (by omega)
      have hm0 : ¬ ((m : Int) = 0) := by omega
      generalize m * m * m = M at hfin q2 hm3
      generalize m * m = M2 at hm1 hm3
      replace hfin := Hid.mk hfin
      refine AL ?_
      refine .loop (.inv (fun d2 E H n' => ∃ k : Nat, k + d2 = M ∧ 2 < n' ∧ E 1 = .ptr 0 0 0 0 ∧ E 2 = .ptr 1 0 0 0 ∧ E 4 = .i .i64 m ∧ E 5 = .i .i64 k ∧ H 0 = some (.box 35 [.sl 0 (cells r), .sl 0 (pieces l)]) ∧ H 1 = some (.box 48 [.i .i64 0, .nil]) ∧ contF Q m dr (findK (Q m) d2 k) = FIN) M ?_ ?_)
      · exact ⟨0, by omega, by omega, by simp [setF_if, *], by simp [setF_if, *], by simp [setF_if, *], by simp [setF_if, *], hH0, hH1, hfin.out⟩
      clear e1 e2 e4 hH0 hH1 hfin hnn
      rintro d2 E H n' ⟨k, hk, hnn, e1, e2, e4, e5, hH0, hH1, hfin⟩
      by_cases ck : (k : Int) < M
      · have hw_k : IntKind.i64.wrap ((k : Int) + 1) = (k : Int) + 1 := wr64 (by omega) (by omega)
        obtain ⟨d3, rfl⟩ : ∃ d3, d2 = d3 + 1 := ⟨d2 - 1, by omega⟩
        rw [findK_succ] at hfin
        have hk1 := quoN k m (by omega)
        have hk2 := quoN (k / m) m (by have := Nat.div_le_self k m; omega)
        have hk3 := remN (k / m) m
        have hk4 := remN k m
        have hR := hRf.out m k (by omega) (by omega)
        have hP := hPl.out m k (by omega) (by omega)
        have hrs : Q m k = true → resW r FIN = (((m : Int), planeM r m ((k / m / m : Nat) : Int) ((k / m % m : Nat) : Int) ((k % m : Nat) : Int)), 0) := fun h => by
          rw [if_pos h] at hfin
          rw [← hfin]; rfl
        generalize k / m / m = a at hk2 hR hP hrs
        generalize k / m % m = b at hk3 hR hP hrs
        generalize k % m = c at hk4 hR hP hrs
        generalize k / m = kd at hk1 hk2 hk3
        generalize planeM r m a b c = pw at hR hP hrs
        generalize hqv : Q m k = qv at hR hrs
        replace hfin := Hid.mk hfin
        replace hR := Hid.mk hR
        replace hP := Hid.mk hP
        replace hrs := Hid.mk hrs
        replace hqv := Hid.mk hqv
        have hq0 : ∀ j, (0 = n' + j) = False := fun j => by simp; omega
        have hq1 : ∀ j, (1 = n' + j) = False := fun j => by simp; omega
        have hnd : [n' + 24].Nodup := by simp
        refine AX ?_
        refine FD [n' + 24] [(6, 0), (999999, 0)] [] hnd ?_
        refine FQ ?_ (hs := by
          intro Hx hx
          have f0 : Hx (0) = _ := hx.off (by simp only [List.mem_cons, List.not_mem_nil, or_false, not_or]; omega)
          simp only [setF_if, upd_if, neAdd, neLt, ltAdd, addNe, ltNe, Nat.left_eq_add, Nat.add_eq_left, Nat.reduceEqDiff, Nat.add_assoc, Nat.reduceAdd, reduceIte, *] at f0
          exact EV)
        refine FQ ?_ (hs := by
          intro Hx hx
          have f0 : Hx (0) = _ := hx.off (by simp only [List.mem_cons, List.not_mem_nil, or_false, not_or]; omega)
          simp only [setF_if, upd_if, neAdd, neLt, ltAdd, addNe, ltNe, Nat.left_eq_add, Nat.add_eq_left, Nat.reduceEqDiff, Nat.add_assoc, Nat.reduceAdd, reduceIte, *] at f0
          exact EV)
        repeat first | refine FF ?_ | refine FS ?_
        refine FCP hP.out ?_
        refine FM 0 (n' + 24) ?_ (hs := by
          intro Hx hx
          exact EVM)
        refine FMN 0 (n' + 24) ?_ (hs := by
          intro Hx hx
          have f0 : Hx (n' + 24) = _ := hx.at hnd 0 rfl (by decide)
          simp only [setF_if, upd_if, neAdd, neLt, ltAdd, addNe, ltNe, Nat.left_eq_add, Nat.add_eq_left, Nat.reduceEqDiff, Nat.add_assoc, Nat.reduceAdd, reduceIte, *] at f0
          exact EVM)
        refine WF.nil ?_
        clear hnd
        refine AL ?_
        refine CV hR.out ?_
        cases qv with
        | true =>
          have hrs2 := hrs.out rfl
          rw [hrs2]
          refine AL ?_
          simp [retA, backA, backsA, newSl, upd_if]
        | false =>
          refine AL ?_
          exact ⟨d3, by omega, k + 1, by omega, by omega, by simp [setF_if, *], by simp [setF_if, *], by simp [setF_if, *], by simp [setF_if, *], by simp [upd_if, *], by simp [upd_if, *], by have := hfin.out; rw [if_neg (by rw [hqv.out]; decide)] at this; exact this⟩
      · have ek : d2 = 0 := by omega
        rw [ek] at hfin
        have hfin2 : findMK Q dr (m + 1) = FIN := hfin
        clear hfin
        replace hfin2 := Hid.mk hfin2
        refine AL ?_
        exact ⟨dr, by omega, m + 1, by omega, by omega, by omega, by simp [setF_if, *], by simp [setF_if, *], by simp [setF_if, *], hH0, hH1, hfin2.out⟩
    · have ed : d = 0 := by omega
      rw [ed] at hfin
      have hrn : resW r FIN = ((0, []), 4) := by rw [← hfin]; rfl
      rw [hrn]
      clear hfin hrn
      refine AL ?_
      simp [retA, backA, backsA, newSl, upd_if, ints]
theorem own_wt {H : Heap} {m : Int} {o e : Nat} {ty : TypeId} {pw : List Int} (h : H o = some (.arr e ty 1 (ints pw) 1)) : ownX H (.tup [.ag [.i .i64 m, .own o e], .i .i64 0]) (.tup [.ag [.i .i64 m, .sl 1 (ints pw)], .i .i64 0]) [o] := by
  have := ownX_mkT (ownX_mk2 (ownX_mki (H := H) (k := .i64) (n := m)) (ownX_sl (ownA_mk h (ints_scal _) (by decide) (ints_fit _)))) (ownX_mki (H := H) (k := .i64) (n := 0))
  simpa using this
theorem implFindWeighting_o (G : Gv) (hA : AllK G) (r : Shape) (l : List PieceM) (hr : r.length < 1000000000) (hl : l.length < 1000000000) (hpl : ∀ p ∈ l, p.cs.length < 1000000000) :
    GivesO Tryz.prog G 35 [.ag [.sl 0 (cells r), .sl 0 (pieces l)]] (.tup [.ag [.i .i64 (fwM (fitsI r l) r l).1.1, .sl 1 (ints (fwM (fitsI r l) r l).1.2)], .i .i64 (fwM (fitsI r l) r l).2]) := by
  refine .of (.body Tryz.func35 rfl (by simp [Tryz.ntmps35]) ?_)
  rw [Tryz.ntmps35, Tryz.results35]
  have hd := implDoesFit_fn G hA.c1 hA.c2 r l hr hl hpl
  have hok := Hid.mk hA.ok
  cases cf : fitsI r l with
  | false =>
    rw [cf] at hd
    have hres : fwM false r l = ((0, []), 1) := rfl
    rw [hres]
    clear hres cf hpl hA
    replace hd := Hid.mk hd
    refine AL ?_
    refine CV hd.out ?_
    refine AL ?_
    exact ⟨[], ownX_mkT (s1 := []) (s2 := []) (ownX_mk2 (s1 := []) (s2 := []) ownX_mki (ownX_sl ownA_nil)) ownX_mki, by simp⟩
  | true =>
    rw [cf] at hd
    have hf : puzzleS r l = true := fits_puzzle (by rw [← fits_eq]; exact cf)
    have hr40 := (puzzle_facts hf).2.2.1
    have hr1 := (puzzle_facts hf).2.1
    have hres : fwM true r l = resW r (findMK (qW r l) 5 2) := by unfold fwM; rw [if_pos rfl]
    rw [hres]
    have hal := allLists_of G hA.toAllG hf
    have hRf : ∀ m k : Nat, 2 ≤ m → m ≤ 6 → Gives Tryz.prog G 90 [.ag [.i .i64 m, .sl 0 (ints (planeM r m ((k / m / m : Nat) : Int) ((k / m % m : Nat) : Int) ((k % m : Nat) : Int)))], .ag [.sl 0 (cells r), .sl 0 (pieces l)], .sl 0 (plRows (LLof r l))] (.b (qW r l m k)) := fun m k h2 h6 =>
      refutes_of G hA.toAllH hf (planeM_ok (by omega) (by omega))
    have hPl : ∀ m k : Nat, 2 ≤ m → m ≤ 6 → WC Tryz.prog G 93 [.sl 0 (cells r), .i .i64 m, .i .i64 ((k / m / m : Nat) : Int), .i .i64 ((k / m % m : Nat) : Int), .i .i64 ((k % m : Nat) : Int)] (fun _ => none) 0 (fun y Hc _ => ∃ oo e, y = .ag [.i .i64 m, .own oo e] ∧ Hc oo = some (.arr e 2 1 (ints (planeM r m ((k / m / m : Nat) : Int) ((k / m % m : Nat) : Int) ((k % m : Nat) : Int))) 1)) := fun m k h2 h6 =>
      planeWeights_wc G r m _ _ _ hr1 (by omega) (by omega) (by omega)
    generalize hQ : qW r l = Q at hRf ⊢
    generalize LLof r l = Ls at hal hRf
    generalize hFIN : findMK Q 5 2 = FIN
    replace hFIN := Hid.mk hFIN
    replace hRf := Hid.mk hRf
    replace hPl := Hid.mk hPl
    replace hd := Hid.mk hd
    replace hal := Hid.mk hal
    clear hres cf hpl hf hQ hA
    refine AL ?_
    refine CV hd.out ?_
    refine AL ?_
    refine CV hal.out ?_
    refine AL ?_
    refine .loop (.inv (fun d E H n' => ∃ m : Nat, m + d = 7 ∧ 2 ≤ m ∧ 2 < n' ∧ E 1 = .ptr 0 0 0 0 ∧ E 2 = .ptr 1 0 0 0 ∧ E 4 = .sl 1 (plRows Ls) ∧ E 5 = .i .i64 m ∧ H 0 = some (.box 35 [.sl 0 (cells r), .sl 0 (pieces l)]) ∧ H 1 = some (.box 48 [.i .i64 0, .nil]) ∧ findMK Q d m = FIN) 5 ?_ ?_)
    · exact ⟨2, by omega, by omega, by omega, by simp [setF_if, argE], by simp [setF_if, argE], by simp [setF_if, argE], by simp [setF_if, argE], by simp [upd_if], by simp [upd_if], hFIN.out⟩
    clear hFIN
    rintro d E H n' ⟨m, hm, hm2, hnn, e1, e2, e4, e5, hH0, hH1, hfin⟩
    by_cases cm : (m : Int) ≤ 6
    · have hw_m : IntKind.i64.wrap ((m : Int) + 1) = (m : Int) + 1 := wr64 (by omega) (by omega)
      obtain ⟨dr, rfl⟩ : ∃ dr, d = dr + 1 := ⟨d - 1, by omega⟩
      rw [findMK_succ] at hfin
      obtain ⟨q1, q2⟩ := cub_le (m := m) (by omega)
      have hm1 : IntKind.i64.wrap ((m : Int) * m) = ((m * m : Nat) : Int) := by rw [← Int.natCast_mul]; exact wr64 (by omega) (by omega)
      have hm3 : IntKind.i64.wrap (((m * m : Nat) : Int) * m) = ((m * m * m : Nat) : Int) := by rw [← Int.natCast_mul]; exact wr64 (by omega) (by omega)
      have hm0 : ¬ ((m : Int) = 0) := by omega
      generalize m * m * m = M at hfin q2 hm3
      generalize m * m = M2 at hm1 hm3
      replace hfin := Hid.mk hfin
      refine AL ?_
      refine .loop (.inv (fun d2 E H n' => ∃ k : Nat, k + d2 = M ∧ 2 < n' ∧ E 1 = .ptr 0 0 0 0 ∧ E 2 = .ptr 1 0 0 0 ∧ E 4 = .sl 1 (plRows Ls) ∧ E 5 = .i .i64 m ∧ E 22 = .i .i64 M ∧ E 23 = .i .i64 k ∧ H 0 = some (.box 35 [.sl 0 (cells r), .sl 0 (pieces l)]) ∧ H 1 = some (.box 48 [.i .i64 0, .nil]) ∧ contF Q m dr (findK (Q m) d2 k) = FIN) M ?_ ?_)
      · exact ⟨0, by omega, by omega, by simp [setF_if, *], by simp [setF_if, *], by simp [setF_if, *], by simp [setF_if, *], by simp [setF_if, *], by simp [setF_if, *], hH0, hH1, hfin.out⟩
      clear e1 e2 e4 e5 hH0 hH1 hfin hnn
      rintro d2 E H n' ⟨k, hk, hnn, e1, e2, e4, e5, e22, e23, hH0, hH1, hfin⟩
      by_cases ck : (k : Int) < M
      · have hw_k : IntKind.i64.wrap ((k : Int) + 1) = (k : Int) + 1 := wr64 (by omega) (by omega)
        obtain ⟨d3, rfl⟩ : ∃ d3, d2 = d3 + 1 := ⟨d2 - 1, by omega⟩
        rw [findK_succ] at hfin
        have hk1 := quoN k m (by omega)
        have hk2 := quoN (k / m) m (by have := Nat.div_le_self k m; omega)
        have hk3 := remN (k / m) m
        have hk4 := remN k m
        have hR := hRf.out m k (by omega) (by omega)
        have hP := hPl.out m k (by omega) (by omega)
        have hrs : Q m k = true → resW r FIN = (((m : Int), planeM r m ((k / m / m : Nat) : Int) ((k / m % m : Nat) : Int) ((k % m : Nat) : Int)), 0) := fun h => by
          rw [if_pos h] at hfin
          rw [← hfin]; rfl
        generalize k / m / m = a at hk2 hR hP hrs
        generalize k / m % m = b at hk3 hR hP hrs
        generalize k % m = c at hk4 hR hP hrs
        generalize k / m = kd at hk1 hk2 hk3
        generalize planeM r m a b c = pw at hR hP hrs
        generalize hqv : Q m k = qv at hR hrs
        replace hfin := Hid.mk hfin
        replace hR := Hid.mk hR
        replace hP := Hid.mk hP
        replace hrs := Hid.mk hrs
        replace hqv := Hid.mk hqv
        have hq0 : ∀ j, (0 = n' + j) = False := fun j => by simp; omega
        have hq1 : ∀ j, (1 = n' + j) = False := fun j => by simp; omega
        have hnd : [n' + 19, n' + 20].Nodup := by simp
        have hn01 : (n' = n' + 1) = False := by simp
        refine AX ?_
        refine FD [n' + 19, n' + 20] [(42, 0), (7, 1), (999999, 1)] [(999999, [0])] hnd ?_
        refine FQ ?_ (hs := by
          intro Hx hx
          have f0 : Hx (0) = _ := hx.off (by simp only [List.mem_cons, List.not_mem_nil, or_false, not_or]; omega)
          simp only [setF_if, upd_if, neAdd, neLt, ltAdd, addNe, ltNe, Nat.left_eq_add, Nat.add_eq_left, Nat.reduceEqDiff, Nat.add_assoc, Nat.reduceAdd, reduceIte, *] at f0
          exact EV)
        refine FQ ?_ (hs := by
          intro Hx hx
          have f0 : Hx (0) = _ := hx.off (by simp only [List.mem_cons, List.not_mem_nil, or_false, not_or]; omega)
          simp only [setF_if, upd_if, neAdd, neLt, ltAdd, addNe, ltNe, Nat.left_eq_add, Nat.add_eq_left, Nat.reduceEqDiff, Nat.add_assoc, Nat.reduceAdd, reduceIte, *] at f0
          exact EV)
        repeat first | refine FF ?_ | refine FS ?_
        refine FCA 0 hok.out ?_
        refine hP.out.mono ?_
        rintro y Hc nc ⟨oo, ee, rfl, hHc⟩
        refine ⟨.i64, m, oo, ee, 1, 1, 2, _, rfl, hHc, .inl (by decide), by decide, ?_⟩
        clear hHc
        refine FM 1 (n' + 20) ?_ (hs := by
          intro Hx hx
          exact EVM)
        refine FMN 1 (n' + 20) ?_ (hs := by
          intro Hx hx
          have f0 : Hx (n' + 20) = _ := hx.at hnd 1 rfl (by decide)
          simp only [setF_if, upd_if, neAdd, neLt, ltAdd, addNe, ltNe, Nat.left_eq_add, Nat.add_eq_left, Nat.reduceEqDiff, Nat.add_assoc, Nat.reduceAdd, reduceIte, *] at f0
          have f1 : Hx (n' + 19) = _ := hx.at hnd 0 rfl (by decide)
          simp only [setF_if, upd_if, neAdd, neLt, ltAdd, addNe, ltNe, Nat.left_eq_add, Nat.add_eq_left, Nat.reduceEqDiff, Nat.add_assoc, Nat.reduceAdd, reduceIte, *] at f1
          exact EVM)
        refine WF.nil ?_
        clear hnd
        refine AL ?_
        refine CV hR.out ?_
        cases qv with
        | true =>
          have hrs2 := hrs.out rfl
          rw [hrs2]
          refine AL ?_
          exact ⟨[n' + 19], own_wt (ty := 2) (by simp [upd_if, *]), by simp⟩
        | false =>
          refine AL ?_
          exact ⟨d3, by omega, k + 1, by omega, by omega, by simp [setF_if, *], by simp [setF_if, *], by simp [setF_if, *], by simp [setF_if, *], by simp [setF_if, *], by simp [setF_if, *], by simp [upd_if, *], by simp [upd_if, *], by have := hfin.out; rw [if_neg (by rw [hqv.out]; decide)] at this; exact this⟩
      · have ek : d2 = 0 := by omega
        rw [ek] at hfin
        have hfin2 : findMK Q dr (m + 1) = FIN := hfin
        clear hfin
        replace hfin2 := Hid.mk hfin2
        refine AL ?_
        exact ⟨dr, by omega, m + 1, by omega, by omega, by omega, by simp [setF_if, *], by simp [setF_if, *], by simp [setF_if, *], by simp [setF_if, *], hH0, hH1, hfin2.out⟩
    · have ed : d = 0 := by omega
      rw [ed] at hfin
      have hrn : resW r FIN = ((0, []), 4) := by rw [← hfin]; rfl
      rw [hrn]
      clear hfin hrn
      refine AL ?_
      exact ⟨[], ownX_mkT (s1 := []) (s2 := []) (ownX_mk2 (s1 := []) (s2 := []) ownX_mki (ownX_sl ownA_nil)) ownX_mki, by simp⟩
end Go.Proofs
end
section
open Go Go.Big
namespace Go.Proofs
set_option maxHeartbeats 2000000
theorem markPuzzle_m (G : Gv) (r : List (Int × Int)) (l : List PieceM) (k : Int) (hr : r.length < 1000000000) (hl : l.length < 1000000000) (hc : ∀ p ∈ l, p.cs.length < 1000000000) (hk0 : 0 ≤ k) (hk : k + 2 * r.length + cntQ l < 1000000000000) :
    Marks Tryz.prog G 20 (.ag [.sl 1 (cells r), .sl 1 (pieces l)]) (.ag [.sl 1 (cells (runC k r.length)), .sl 1 (pieces (mkQ (k + 2 * r.length) l))]) k (k + 2 * r.length + cntQ l) := by
  intro x H0 n0 S hx hn hS
  have hcn := cntQ_nn l
  obtain ⟨za, zb, s1, s2, rfl, rfl, hxa, hxb⟩ := ownX_ag2 hx
  clear hx
  rw [List.nodup_append] at hn
  obtain ⟨hn1, hn2, hn3⟩ := hn
  have hS1 : ∀ o ∈ s1, o < n0 := fun o ho => hS o (by simp [ho])
  have hS2 : ∀ o ∈ s2, o < n0 := fun o ho => hS o (by simp [ho])
  have pa := (ownX_plain hxa).1
  have pb := (ownX_plain hxb).1
  replace hxa := Hid.mk hxa
  replace hxb := Hid.mk hxb
  replace hn1 := Hid.mk hn1
  replace hn2 := Hid.mk hn2
  replace hn3 := Hid.mk hn3
  replace hS1 := Hid.mk hS1
  replace hS2 := Hid.mk hS2
  replace hc := Hid.mk hc
  clear hS
  refine (.body Tryz.func20 rfl (by simp [Tryz.ntmps20]) ?_)
  rw [Tryz.ntmps20, Tryz.results20]
  refine W.seq ?_
  refine W.region ?_
  refine OP (y := .ptr n0 0 0 0) (H1 := H0.upd n0 (.box 35 [za, zb])) (op := .box 35 (.tmp 0)) ?_ (hs := by rw [st_box]; simp [flatA, pa, pb, argE])
  refine AL ?_
  refine CI ?_
  refine WC.mono (markCellS_m G r k hr hk0 (by omega) _ _ _ s1 (ownX_congr (fun o ho => by rw [upd_if, if_neg (by have := hS1.out o ho; omega)]) hxa.out) hn1.out (fun o ho => by have := hS1.out o ho; omega)) ?_
  rintro _ H1 m ⟨rfl, hm, hz1, hf1⟩
  have hb := hf1 n0 (by omega) (fun h => by have := hS1.out _ h; omega)
  rw [upd_if, if_pos rfl] at hb
  have hxb1 := ownX_congr (H' := H1) (fun o ho => by rw [hf1 o (by have := hS2.out o ho; omega) (fun h => hn3.out o h o ho rfl), upd_if, if_neg (by have := hS2.out o ho; omega)]) hxb.out
  replace hxb1 := Hid.mk hxb1
  replace hz1 := Hid.mk hz1
  replace hf1 := Hid.mk hf1
  clear pa pb
  refine AL ?_
  refine CI ?_
  refine WC.mono (markPieceS_m G l (k + 2 * r.length) hl hc.out (by omega) (by omega) _ _ _ s2 hxb1.out hn2.out (fun o ho => by have := hS2.out o ho; omega)) ?_
  rintro _ H2 m2 ⟨rfl, hm2, hz2, hf2⟩
  have hb2 := hf2 n0 (by omega) (fun h => by have := hS2.out _ h; omega)
  replace hz2 := Hid.mk hz2
  replace hf2 := Hid.mk hf2
  refine AL ?_
  refine ⟨rfl, by omega, ownX_mk2 (ownX_congr (fun o ho => hf2.out o (by have := hS1.out o ho; omega) (fun h => hn3.out o ho o h rfl)) hz1.out) hz2.out, fun o ho hno => ?_⟩
  rw [hf2.out o (by omega) (fun h => hno (by simp [h])), hf1.out o (by omega) (fun h => hno (by simp [h])), upd_if, if_neg (by omega)]
end Go.Proofs
end
section
open Go Go.Big
namespace Go.Proofs
set_option maxHeartbeats 2000000
theorem mkP_length : ∀ (k : Int) (l : List (Int × List Int)), (mkP k l).length = l.length
  | _, [] => rfl
  | k, p :: l => by simp only [mkP, List.length_cons, mkP_length]
end Go.Proofs
end
section
open Go Go.Big
namespace Go.Proofs
set_option maxHeartbeats 2000000
theorem toWeighting_fn (G : Gv) (k : Int) (l : List Int) (hl : l.length < 1000000000) : Gives Tryz.prog G 25 [.ag [.i .i64 k, .sl 0 (ints l)]] (.ag [.i .i64 k, .sl 1 (ints l)]) := by
  refine .of (.body Tryz.func25 rfl (by simp [Tryz.ntmps25]) ?_)
  rw [Tryz.ntmps25, Tryz.results25]
  refine AG ?_
  refine CV (toInt64S_fn G _ hl) ?_
  refine AG ?_
  refine .ret ?_
  refine DN ?_
  simp [retA, backA, backsA, newSl, newB]
theorem eqWeighting_fn (G : Gv) (k : Int) (l : List Int) (hl : l.length < 1000000000) : Gives Tryz.prog G 28 [.ag [.i .i64 k, .sl 0 (ints l)], .ag [.i .i64 k, .sl 0 (ints l)]] (.b true) := by
  refine .of (.body Tryz.func28 rfl (by simp [Tryz.ntmps28]) ?_)
  rw [Tryz.ntmps28, Tryz.results28]
  refine AG ?_
  refine IFF ?_
  refine .skip ?_
  refine AG ?_
  refine CV (eqInt64S_fn G _ hl) ?_
  refine AG ?_
  refine IFF ?_
  refine .skip ?_
  refine AG ?_
  refine .ret ?_
  refine DN ?_
  simp [retA, backA]
theorem szWeighting_fn (G : Gv) (k : Int) (l : List Int) (left : Int) (hl : l.length ≤ 9223372036854775807) (h0 : 0 ≤ left) (h1 : left ≤ 1048576) : Gives Tryz.prog G 23 [.ag [.i .i64 k, .sl 0 (ints l)], .i .i64 left] (.i .i64 (szN l.length left)) := by
  refine .of (.body Tryz.func23 rfl (by simp [Tryz.ntmps23]) ?_)
  rw [Tryz.ntmps23, Tryz.results23]
  refine AL ?_
  refine CV (szInt64S_fn G _ _ hl h0 h1) ?_
  by_cases c : szN l.length left < 0
  · refine AL ?_
    have : szN l.length left = -1 := by unfold szN at *; split at c <;> simp_all
    simp [retA, backA, this]
  · refine AL ?_
    simp [retA, backA]
theorem toWeighting_o (G : Gv) (k : Int) (l : List Int) (hl : l.length < 1000000000) : GivesO Tryz.prog G 25 [.ag [.i .i64 k, .sl 0 (ints l)]] (.ag [.i .i64 k, .sl 1 (ints l)]) := by
  refine .of (.body Tryz.func25 rfl (by simp [Tryz.ntmps25]) ?_)
  rw [Tryz.ntmps25, Tryz.results25]
  refine AL ?_
  refine CWO (toInt64S_o G _ hl) ?_
  intro z H1 S m hz hn hS hf hm
  have f1 := hf 1 (by omega)
  have f2 := hf 2 (by omega)
  have f0 := hf 0 (by omega)
  simp [upd_if] at f0 f1 f2
  have hS1 : ∀ o ∈ S, 5 ≤ o := fun o ho => Nat.le_trans (by omega) (hS o ho).1
  replace hS := Hid.mk hS
  replace hf := Hid.mk hf
  replace hn := Hid.mk hn
  replace hS1 := Hid.mk hS1
  have hz' := Hid.mk hz
  rcases ownX_cases hz with ⟨o, e, ty, sz, rows, t, rfl, hH, ho⟩ | rfl | ⟨t, rfl⟩
  · clear hz
    have ho5 := hS1.out o ho
    have n1 : ¬ o = 1 := by omega
    have n2 : ¬ o = 2 := by omega
    clear ho
    refine AL ?_
    exact ⟨S, ownX_mk2 (s1 := []) ownX_mki (ownX_congr (fun o ho => by have := hS1.out o ho; simp [upd_if, show ¬ o = 1 by omega, show ¬ o = 2 by omega]) hz'.out), hn.out⟩
  · clear hz
    refine AL ?_
    exact ⟨S, ownX_mk2 (s1 := []) ownX_mki (ownX_congr (fun o ho => by have := hS1.out o ho; simp [upd_if, show ¬ o = 1 by omega, show ¬ o = 2 by omega]) hz'.out), hn.out⟩
  · clear hz
    refine AL ?_
    exact ⟨S, ownX_mk2 (s1 := []) ownX_mki (ownX_congr (fun o ho => by have := hS1.out o ho; simp [upd_if, show ¬ o = 1 by omega, show ¬ o = 2 by omega]) hz'.out), hn.out⟩
theorem markWeighting_m (G : Gv) (j : Int) (l : List Int) (k : Int) (hl : l.length < 1000000000) (hk0 : 0 ≤ k) (hk : k < 1000000000000) :
    Marks Tryz.prog G 29 (.ag [.i .i64 j, .sl 1 (ints l)]) (.ag [.i .i64 j, .sl 1 (ints (runI k l.length))]) k (k + l.length) := by
  intro x H0 n0 S hx hn hS
  obtain ⟨zi, za, s2, s1, rfl, rfl, hxi, hxa⟩ := ownX_ag2 hx
  obtain ⟨rfl, rfl⟩ := ownX_i hxi
  clear hx hxi
  rw [List.nil_append] at hn hS ⊢
  have pa := (ownX_plain hxa).1
  have pi : plainA H0 (.i .i64 j) = true := rfl
  replace hxa := Hid.mk hxa
  replace hn := Hid.mk hn
  replace hS := Hid.mk hS
  refine (.body Tryz.func29 rfl (by simp [Tryz.ntmps29]) ?_)
  rw [Tryz.ntmps29, Tryz.results29]
  refine W.seq ?_
  refine W.region ?_
  refine OP (y := .ptr n0 0 0 0) (H1 := H0.upd n0 (.box 48 [.i .i64 j, za])) (op := .box 48 (.tmp 0)) ?_ (hs := by rw [st_box]; simp [flatA, pa, pi, argE])
  clear pa pi
  refine AL ?_
  refine CI ?_
  refine WC.mono (markInt64S_m G l k hl hk0 hk _ _ _ s1 (ownX_congr (fun o ho => by rw [upd_if, if_neg (by have := hS.out o ho; omega)]) hxa.out) hn.out (fun o ho => by have := hS.out o ho; omega)) ?_
  rintro _ H1 m ⟨rfl, hm, hz1, hf1⟩
  replace hz1 := Hid.mk hz1
  replace hf1 := Hid.mk hf1
  refine AL ?_
  refine ⟨rfl, by omega, ownX_mk2 (s1 := []) ownX_mki hz1.out, fun o ho hno => ?_⟩
  rw [hf1.out o (by omega) hno, upd_if, if_neg (by omega)]
theorem heldWeighting_fn (G : Gv) (j : Int) (k : Int) (m : Nat) (hl : m < 1000000000) (hk0 : 0 ≤ k) (hk : k < 1000000000000) :
    Gives Tryz.prog G 36 [.ag [.i .i64 j, .sl 0 (ints (runI k m))], .i .i64 k] (.i .i64 (k + m)) := by
  refine .of (.body Tryz.func36 rfl (by simp [Tryz.ntmps36]) ?_)
  rw [Tryz.ntmps36, Tryz.results36]
  have hneg : ¬ (k + (m : Int) < 0) := by omega
  refine AL ?_
  refine CV (heldInt64S_fn G k m hl hk0 hk) ?_
  refine AL ?_
  simp [retA, backA]
end Go.Proofs
end
