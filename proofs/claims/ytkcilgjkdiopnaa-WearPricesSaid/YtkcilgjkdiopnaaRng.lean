/- A range over a function whose iterator is a plain list of values: one law for the loop, at a method value or a closure. No program in sight. -/
import Derived.Test.YtkcilgjkdiopnaaLib
import Derived.RangeFuncNested
import Derived.RangeFuncBound
import Derived.RangeFuncCalls
import Derived.RangeFuncLeaves
import Derived.Shelf.Abstract
import Derived.Shelf.RegionOpen
import Derived.OwnWalkIn
import Derived.TacticsInMore
import Derived.LoopNIn
import Derived.LoopIn
namespace Go.Proofs.Ytkcilgjkdiopnaa
open Go.RowKit

/-- but for the blocks from B0 up to B1 what was there is as it was -/
structure ExtI (B0 B1 : Nat) (w w' : World) : Prop where
  os : w'.os = w.os
  tape : w'.tape = w.tape
  output : w'.output = w.output
  size : w.heap.size ≤ w'.heap.size
  block : ∀ k, k < w.heap.size → (k < B0 ∨ B1 ≤ k) → w'.heap[k]? = w.heap[k]?
theorem ExtI.refl (B0 B1 : Nat) (w : World) : ExtI B0 B1 w w := ⟨rfl, rfl, rfl, Nat.le_refl _, fun _ _ _ => rfl⟩
theorem ExtI.trans {B0 B1 : Nat} {a b c : World} (h : ExtI B0 B1 a b) (k : ExtI B0 B1 b c) : ExtI B0 B1 a c :=
  ⟨k.os.trans h.os, k.tape.trans h.tape, k.output.trans h.output, Nat.le_trans h.size k.size, fun i hi hb => (k.block i (Nat.lt_of_lt_of_le hi h.size) hb).trans (h.block i hi hb)⟩
theorem Ext.toI {a b : World} (h : Ext a b) (B0 B1 : Nat) : ExtI B0 B1 a b := ⟨Below.os h, Below.tape h, Below.output h, Below.size h, fun k hk _ => Below.block h k hk⟩
theorem ExtI.mono {B0 B1 C : Nat} {a b : World} (h : ExtI B0 B1 a b) (hC : B1 ≤ C) : ExtI B0 C a b := ⟨h.os, h.tape, h.output, h.size, fun k hk hb => h.block k hk (by omega)⟩
theorem ExtI.setCell {B0 B1 : Nat} {a b : World} (h : ExtI B0 B1 a b) {p : Addr} (h0 : B0 ≤ p.block) (h1 : p.block < B1) (u : Value) : ExtI B0 B1 a (b.setCell p u) :=
  h.trans ⟨rfl, rfl, rfl, by simp [World.setCell], fun k _ hb => Below.heap_setCell _ _ _ _ (by omega)⟩
/-- over a world whose size is at most B0 nothing has turned -/
theorem ExtI.ext {B0 B1 : Nat} {a b c : World} (h : Ext a b) (k : ExtI B0 B1 b c) (hB : a.heap.size ≤ B0) : Ext a c :=
  ⟨k.os.trans (Below.os h), k.tape.trans (Below.tape h), k.output.trans (Below.output h), Nat.le_trans (Below.size h) k.size,
    fun i hi => (k.block i (Nat.lt_of_lt_of_le hi (Below.size h)) (.inl (by omega))).trans (Below.block h i hi)⟩

theorem ExtI.set {B0 B1 : Nat} {a b : World} {c o : Nat} {u : Value} (h : ExtI B0 B1 a b) (h0 : B0 ≤ c) (h1 : c < B1) : ExtI B0 B1 a (b.setCell ⟨c, o, none⟩ u) := h.setCell (p := ⟨c, o, none⟩) h0 h1 u
theorem and_dep {p q : Prop} (hp : p) (hq : p → q) : p ∧ q := ⟨hp, hq hp⟩
theorem ExtI.drew {B0 B1 : Nat} {a b : World} (h : ExtI B0 B1 a b) : ExtI B0 B1 a b.drew := ⟨h.os, h.tape, h.output, h.size, h.block⟩
theorem ExtI.drewN {B0 B1 : Nat} {a b : World} (h : ExtI B0 B1 a b) (n : Nat) : ExtI B0 B1 a (b.drewN n) := ⟨h.os, h.tape, h.output, h.size, h.block⟩
theorem heap_set {W : World} {B o : Nat} {u : Value} {cs cs' : Array Value} {t : TypeId} {f : Nat × Nat} (h : W.heap[B]? = some (.cells cs t f)) (e : cs' = cs.setIfInBounds o u) : (W.setCell ⟨B, o, none⟩ u).heap[B]? = some (.cells cs' t f) := by
  rw [e]
  simp only [World.setCell, Array.getElem?_modify, h]
  simp
theorem heap_set_ne {W : World} {B B' o : Nat} {u : Value} {r : Option Obj} (h : B' ≠ B) (k : W.heap[B']? = r) : (W.setCell ⟨B, o, none⟩ u).heap[B']? = r :=
  (Below.heap_setCell W ⟨B, o, none⟩ u B' h).trans k
theorem heap_drew {W : World} {B : Nat} {r : Option Obj} (k : W.heap[B]? = r) : W.drew.heap[B]? = r := k
theorem heap_drewN {W : World} {B n : Nat} {r : Option Obj} (k : W.heap[B]? = r) : (W.drewN n).heap[B]? = r := k

/-- block l alone has turned -/
structure But (l : Nat) (w w' : World) : Prop where
  os : w'.os = w.os
  tape : w'.tape = w.tape
  output : w'.output = w.output
  size : w'.heap.size = w.heap.size
  block : ∀ k, k ≠ l → w'.heap[k]? = w.heap[k]?
theorem But.put (w : World) (l : Nat) (o : Obj) : But l w (w.putObj l o) := ⟨rfl, rfl, rfl, by simp [World.putObj], fun k hk => World.putObj_heap_other (by omega)⟩
theorem But.toI {l B0 B1 : Nat} {w w' : World} (h : But l w w') (h0 : B0 ≤ l) (h1 : l < B1) : ExtI B0 B1 w w' := ⟨h.os, h.tape, h.output, by rw [h.size]; exact Nat.le_refl _, fun k _ hb => h.block k (by omega)⟩
theorem But.below {l C : Nat} {w w' : World} (h : But l w w') (h0 : C ≤ l) : Below C w w' := ⟨h.os, h.tape, h.output, by rw [h.size]; exact Nat.le_refl _, fun k hk => h.block k (by omega)⟩
theorem But.cell {l : Nat} {w w' : World} (h : But l w w') {b o : Nat} {v : Value} (hc : w.cell? ⟨b, o, none⟩ = some v) (hb : b ≠ l) : w'.cell? ⟨b, o, none⟩ = some v := by
  rw [← hc]; exact World.cell?_of_block (a := ⟨b, o, none⟩) (h.block b hb)

abbrev WF : Fence := Fence.wide

/-- what a call of yield does: another round, or the last one -/
def YieldOK {α : Type} (P : Program) (l : Nat) (enc : α → Value) (ok : α → Prop) (B0 B1 : Nat) (J Jx : List α → World → Prop) : Prop :=
  ∀ pre x W, ok x → J pre W → B1 ≤ W.heap.size → YieldAt WF 0 P l #[enc x] W fun e W' =>
    ((e = .returned (.bool true) ∧ J (pre ++ [x]) W') ∨ (e = .returned (.bool false) ∧ Jx (pre ++ [x]) W')) ∧ ExtI B0 B1 W W'

/-- how a round ends -/
def roundP {α : Type} (I : List α → World → Prop) (Ix : Code → List α → World → Prop) (xs : List α) (B0 C : Nat) (W : World) : Exit → Act → World → Prop
  | .normal, _, W3 => ExtI B0 C W W3 ∧ I xs W3
  | .ret, _, W3 => ExtI B0 C W W3 ∧ Ix .ret xs W3
  | .exit id, _, W3 => ExtI B0 C W W3 ∧ Ix (.exit id) xs W3
  | .goto t, _, W3 => ExtI B0 C W W3 ∧ Ix (.goto t) xs W3
  | .panic _, _, _ => False
  | .outgrown, _, _ => False

theorem range_law {α : Type} {P : Program} {g : Operand} {p : Tmp} {assign body : Code} {Q : Exit → Act → World → Prop} {a : Act} {w : World}
    {gf : Nat} {fst cap : Array Value} (hg : a.eval g = .func (.func gf) fst cap) (eg : ∀ args w, (callFunc gf args).run P w = .ok (.enter gf args) w)
    (enc : α → Value) (ok : α → Prop) (L : List α) (B0 : Nat) (hB0 : B0 ≤ w.heap.size)
    (I : List α → World → Prop) (Ix : Code → List α → World → Prop)
    (hI : ∀ pre W W', I pre W → Below w.heap.size W W' → I pre W') (hIx : ∀ c pre W W', Ix c pre W → Below w.heap.size W W' → Ix c pre W')
    (h0 : I [] w)
    (hiter : ∀ l (J Jx : List α → World → Prop), (∀ pre W W', J pre W → Below (w.heap.size + 2) W W' → J pre W') → (∀ pre W W', Jx pre W → Below (w.heap.size + 2) W W' → Jx pre W') → ((∀ c pre W, ¬Ix c pre W) → ∀ pre W, ¬Jx pre W) →
      YieldOK P l enc ok B0 (w.heap.size + 2) J Jx → ∀ W, Ext w W → w.heap.size + 2 ≤ W.heap.size → J [] W →
      CallsIn WF 0 P gf (fst ++ #[.func (.yield l) #[] #[]] ++ cap) W fun e W' => (∃ v, e = .returned v) ∧ (J L W' ∨ ∃ pre, pre <+: L ∧ Jx pre W') ∧ ExtI B0 (w.heap.size + 2) W W')
    (hround : ∀ l pre x W, ok x → l = w.heap.size + 1 → I pre W → w.heap.size + 2 ≤ W.heap.size →
      assign.wpIn (WF.inRound l) 0 P (Exit.then (fun a1 W1 => Ext W W1 ∧ ∀ W2, But l W1 W2 → body.wpIn (WF.inRound l) 0 P (roundP I Ix (pre ++ [x]) B0 w.heap.size W2) a1 W2) (fun _ _ _ => False))
        { tmps := a.tmps.setIfInBounds p (enc x), defers := [] } W)
    (hdone : ∀ W, I L W → W.heap[w.heap.size]? = some (.deferred (some [])) → Q .normal { a with defers := { target := .collected w.heap.size, args := #[] } :: a.defers } W)
    (hstop : ∀ c pre W, pre <+: L → Ix c pre W → W.heap[w.heap.size]? = some (.deferred (some [])) → c.wpIn WF 0 P Q { a with defers := { target := .collected w.heap.size, args := #[] } :: a.defers } W) :
    (Code.rangeFunc g #[p] assign body).wpIn WF 0 P Q a w := by
  refine wpIn_rangeFunc ?_
  intro fn hfn
  obtain ⟨rec, hrec⟩ : ∃ rec : LoopState → Option Code → Loop, rec = fun st pe => { state := st, pending := pe, fn, tmps := a.tmps, params := #[p], assign, body, defers := w.heap.size } := ⟨_, rfl⟩
  obtain ⟨W1, hW1⟩ : ∃ W1, (w.alloc (.deferred (some []))).alloc (.loop (rec .ready none)) = W1 := ⟨_, rfl⟩
  have hs1 : W1.heap.size = w.heap.size + 2 := by rw [← hW1]; simp
  have hL1 : W1.heap[w.heap.size + 1]? = some (.loop (rec .ready none)) := by
    rw [← hW1]; have := World.alloc_heap_new (w.alloc (.deferred (some []))) (.loop (rec .ready none)); rwa [World.size_alloc] at this
  have hK1 : W1.heap[w.heap.size]? = some (.deferred (some [])) := by
    rw [← hW1]; exact (Below.heap_alloc _ _ _ (by simp)).trans (World.alloc_heap_new w _)
  have hE1 : Ext w W1 := by rw [← hW1]; exact Ext.alloc (Ext.alloc (Ext.refl w) _) _
  refine ⟨w.heap.size + 1, [{ target := .collected w.heap.size, args := #[] }], W1, { target := .fn (.func gf) cap, args := fst ++ #[.func (.yield (w.heap.size + 1)) #[] #[]] }, W1, gf,
    fst ++ #[.func (.yield (w.heap.size + 1)) #[] #[]] ++ cap, W1, ?_, ?_, ?_, ?_, fun h => by simp [Fence.wide] at h, ?_⟩
  · rw [← hW1, hrec]; exact run_enterLoop_outer _ _ _ _ _
  · simp only [resolve, hg]
    simp [go_sem]
  · intro f' hf'; trivial
  · simp [invoke, go_sem, eg]
  · refine (hiter (w.heap.size + 1)
      (fun pre W => I pre W ∧ W.heap[w.heap.size + 1]? = some (.loop (rec .ready none)) ∧ W.heap[w.heap.size]? = some (.deferred (some [])))
      (fun pre W => ∃ c, Ix c pre W ∧ W.heap[w.heap.size + 1]? = some (.loop (rec .done (some c))) ∧ W.heap[w.heap.size]? = some (.deferred (some [])))
      (fun pre A B hs hb => ⟨hI _ _ _ hs.1 (hb.mono (by omega)), (hb.block _ (by omega)).trans hs.2.1, (hb.block _ (by omega)).trans hs.2.2⟩)
      (fun pre A B hs hb => by obtain ⟨c, hc, hl, hk⟩ := hs; exact ⟨c, hIx _ _ _ _ hc (hb.mono (by omega)), (hb.block _ (by omega)).trans hl, (hb.block _ (by omega)).trans hk⟩)
      (fun hno pre W hs => by obtain ⟨c, hc, -⟩ := hs; exact hno _ _ _ hc)
      ?_ W1 hE1 (by omega) ⟨hI _ _ _ h0 hE1, hL1, hK1⟩).mono ?_
    · -- ONE ROUND
      rintro pre x W hok ⟨hi, hl, hk⟩ hsz
      have hy := run_yield (P := P) (args := #[enc x]) hl (by rw [hrec]; rfl)
      rw [hrec] at hy
      have hy' : (Instr.yield (w.heap.size + 1) #[enc x]).run P W = .ok (.round (w.heap.size + 1) fn (a.tmps.setIfInBounds p (enc x)) assign body) W := by simpa using hy
      refine ⟨fn, _, assign, body, hy', roundIn_of_wpIn hfn (wpIn_mono (hround _ pre x W hok rfl hi hsz) ?_)⟩
      intro e a1 WA hA
      cases e with
      | normal =>
        obtain ⟨hEA, hbody⟩ := hA
        have hlA : WA.heap[w.heap.size + 1]? = some (.loop (rec .ready none)) := (Below.block hEA _ (by omega)).trans hl
        have hkA : WA.heap[w.heap.size]? = some (.deferred (some [])) := (Below.block hEA _ (by omega)).trans hk
        have hltA : w.heap.size + 1 < WA.heap.size := (Array.getElem?_eq_some_iff.1 hlA).1
        refine ⟨_, run_beginRound hlA (by rw [hrec]), ?_⟩
        obtain ⟨W2, hW2⟩ : ∃ W2, WA.putObj (w.heap.size + 1) (.loop { rec .ready none with state := .busy }) = W2 := ⟨_, rfl⟩
        rw [hW2]
        have hB2 : But (w.heap.size + 1) WA W2 := by rw [← hW2]; exact But.put _ _ _
        have hl2 : W2.heap[w.heap.size + 1]? = some (.loop { rec .ready none with state := .busy }) := by rw [← hW2]; exact World.putObj_heap_same hltA
        have hk2 : W2.heap[w.heap.size]? = some (.deferred (some [])) := (hB2.block _ (by omega)).trans hkA
        refine wpIn_mono (hbody W2 hB2) ?_
        have fin : ∀ (jump : Option Code) (W3 : World), ExtI B0 w.heap.size W2 W3 →
            (Instr.endRound (w.heap.size + 1) jump).run P W3 = .ok (.bool jump.isNone) (W3.putObj (w.heap.size + 1) (.loop (rec (if jump.isNone then .ready else .done) jump))) ∧
            (W3.putObj (w.heap.size + 1) (.loop (rec (if jump.isNone then .ready else .done) jump))).heap[w.heap.size + 1]? = some (.loop (rec (if jump.isNone then .ready else .done) jump)) ∧
            (W3.putObj (w.heap.size + 1) (.loop (rec (if jump.isNone then .ready else .done) jump))).heap[w.heap.size]? = some (.deferred (some [])) ∧
            ExtI B0 (w.heap.size + 2) W (W3.putObj (w.heap.size + 1) (.loop (rec (if jump.isNone then .ready else .done) jump))) ∧
            Below w.heap.size W3 (W3.putObj (w.heap.size + 1) (.loop (rec (if jump.isNone then .ready else .done) jump))) := fun jump W3 h3 => by
          have hl3 := (h3.block _ (by rw [hB2.size]; omega) (.inr (by omega))).trans hl2
          have hk3 := (h3.block _ (by rw [hB2.size]; omega) (.inr (Nat.le_refl _))).trans hk2
          have := run_endRound (P := P) jump hl3
          rw [hrec] at this ⊢
          refine ⟨this, World.putObj_heap_same (Array.getElem?_eq_some_iff.1 hl3).1, (World.putObj_heap_other (by omega)).trans hk3, ?_, But.below (But.put _ _ _) (by omega)⟩
          exact (((hEA.toI B0 (w.heap.size + 2)).trans (hB2.toI (by omega) (by omega))).trans (h3.mono (by omega))).trans ((But.put _ _ _).toI (by omega) (by omega))
        rintro e a3 W3 hp
        cases e with
        | normal =>
          obtain ⟨h3, hi3⟩ := hp
          obtain ⟨hr, hl4, hk4, hx4, hb4⟩ := fin none W3 h3
          exact ⟨_, _, hr, .inl ⟨rfl, hI _ _ _ hi3 hb4, hl4, hk4⟩, hx4⟩
        | ret =>
          obtain ⟨h3, hi3⟩ := hp
          obtain ⟨hr, hl4, hk4, hx4, hb4⟩ := fin (some .ret) W3 h3
          exact ⟨_, _, hr, .inr ⟨rfl, .ret, hIx _ _ _ _ hi3 hb4, hl4, hk4⟩, hx4⟩
        | exit id =>
          obtain ⟨h3, hi3⟩ := hp
          obtain ⟨hr, hl4, hk4, hx4, hb4⟩ := fin (some (.exit id)) W3 h3
          exact ⟨_, _, hr, .inr ⟨rfl, .exit id, hIx _ _ _ _ hi3 hb4, hl4, hk4⟩, hx4⟩
        | goto t =>
          obtain ⟨h3, hi3⟩ := hp
          obtain ⟨hr, hl4, hk4, hx4, hb4⟩ := fin (some (.goto t)) W3 h3
          exact ⟨_, _, hr, .inr ⟨rfl, .goto t, hIx _ _ _ _ hi3 hb4, hl4, hk4⟩, hx4⟩
        | panic ch => exact hp.elim
        | outgrown => exact hp.elim
      | exit id => exact hA.elim
      | goto t => exact hA.elim
      | ret => exact hA.elim
      | panic ch => exact hA.elim
      | outgrown => exact hA.elim
    · -- BEHIND THE ITERATOR
      rintro e W2 ⟨⟨v, rfl⟩, (⟨hi, hl, hk⟩ | ⟨pre, hpre, c, hi, hl, hk⟩), -⟩
      · exact ⟨none, _, by have := run_endLoop (P := P) hl (by rw [hrec]; simp); rw [hrec] at this; exact this, hdone _ (hI _ _ _ hi ((But.put _ _ _).below (by omega))) ((World.putObj_heap_other (by omega)).trans hk)⟩
      · exact ⟨some c, _, by have := run_endLoop (P := P) hl (by rw [hrec]; simp); rw [hrec] at this; exact this, hstop c pre _ hpre (hIx _ _ _ _ hi ((But.put _ _ _).below (by omega))) ((World.putObj_heap_other (by omega)).trans hk)⟩

/-- yield never says no -/
def YieldAll {α : Type} (P : Program) (l : Nat) (enc : α → Value) (ok : α → Prop) (B0 B1 : Nat) (J : List α → World → Prop) : Prop :=
  ∀ pre x W, ok x → J pre W → B1 ≤ W.heap.size → YieldAt WF 0 P l #[enc x] W fun e W' => e = .returned (.bool true) ∧ J (pre ++ [x]) W' ∧ ExtI B0 B1 W W'

/-- a loop that is never left early -/
theorem range_all {α : Type} {P : Program} {g : Operand} {p : Tmp} {assign body : Code} {Q : Exit → Act → World → Prop} {a : Act} {w : World}
    {gf : Nat} {fst cap : Array Value} (hg : a.eval g = .func (.func gf) fst cap) (eg : ∀ args w, (callFunc gf args).run P w = .ok (.enter gf args) w)
    (enc : α → Value) (ok : α → Prop) (L : List α) (B0 : Nat) (hB0 : B0 ≤ w.heap.size)
    (I : List α → World → Prop) (hI : ∀ pre W W', I pre W → Below w.heap.size W W' → I pre W')
    (h0 : I [] w)
    (hiter : ∀ l (J : List α → World → Prop), (∀ pre W W', J pre W → Below (w.heap.size + 2) W W' → J pre W') → YieldAll P l enc ok B0 (w.heap.size + 2) J → ∀ W, Ext w W → w.heap.size + 2 ≤ W.heap.size → J [] W →
      Calls P gf (fst ++ #[.func (.yield l) #[] #[]] ++ cap) W fun e W' => (∃ v, e = .returned v) ∧ J L W' ∧ ExtI B0 (w.heap.size + 2) W W')
    (hround : ∀ l pre x W, ok x → l = w.heap.size + 1 → I pre W → w.heap.size + 2 ≤ W.heap.size →
      assign.wpIn (WF.inRound l) 0 P (Exit.then (fun a1 W1 => Ext W W1 ∧ ∀ W2, But l W1 W2 → body.wpIn (WF.inRound l) 0 P (roundP I (fun _ _ _ => False) (pre ++ [x]) B0 w.heap.size W2) a1 W2) (fun _ _ _ => False))
        { tmps := a.tmps.setIfInBounds p (enc x), defers := [] } W)
    (hdone : ∀ W, I L W → W.heap[w.heap.size]? = some (.deferred (some [])) → Q .normal { a with defers := { target := .collected w.heap.size, args := #[] } :: a.defers } W) :
    (Code.rangeFunc g #[p] assign body).wp P Q a w := by
  refine (wpIn_wide (n := 0)).1 (range_law hg eg enc ok L B0 hB0 I (fun _ _ _ => False) hI (fun _ _ _ _ h _ => h) h0 ?_ hround hdone (fun _ _ _ _ h _ => h.elim))
  intro l J Jx hJ hJx hno hy W hE hs hj
  refine callsIn_wide.2 ((hiter l J hJ ?_ W hE hs hj).mono fun e W' ⟨h1, h2, h3⟩ => ⟨h1, .inl h2, h3⟩)
  intro pre x W hok hp hB
  obtain ⟨fn, tmps, ag, bd, hy1, hy2⟩ := hy pre x W hok hp hB
  refine ⟨fn, tmps, ag, bd, hy1, hy2.mono ?_⟩
  rintro e W' ⟨(h | ⟨-, h⟩), h3⟩
  · exact ⟨h.1, h.2, h3⟩
  · exact (hno (fun _ _ _ h => h) _ _ h).elim

/-- a function whose body holds such a loop: its walk by the plain rules -/
theorem calls_of_marks {P : Program} {f : FuncId} {fn : Func} {c : Code} {args : Array Value} {w : World} {R : Ending → World → Prop} (hf : P.funcs[f]? = some fn) (hb : fn.body = some c)
    (h : c.wp P (bodyPostM WF 0 P fn R) { tmps := args ++ Array.replicate (fn.ntmps - args.size) undef, defers := [] } w) : Calls P f args w R :=
  (callsIn_wide (n := 0)).1 (callsIn_of_wp_marks hf hb trivial (wpIn_wide.2 h))
theorem marks_ret {P : Program} {fn : Func} {R : Ending → World → Prop} {tmps : Array Value} {C : Nat} {W : World} {v : Value} (hd : W.heap[C]? = some (.deferred (some [])))
    (hr : ∀ W', But C W W' → (results fn tmps).run P W' = .ok v W') (h : ∀ W', But C W W' → R (.returned v) W') :
    bodyPostM WF 0 P fn R .ret { tmps, defers := [{ target := .collected C, args := #[] }] } W := by
  refine ⟨by simp, .inl ⟨_, _, rfl, run_takeDeferred hd, ?_⟩⟩
  exact ⟨_, hr _ (But.put _ _ _), h _ (But.put _ _ _)⟩

/-! a region of a round that draws its order and only reads: one walk, in the order of the text -/
section
variable {P : Program} {ops : Array Oper} {C : World → Prop} {md : Region.Mode} {l0 : Nat}
theorem round_of_quiet {o : Oper} {a : Act} {K : Act → Prop} {K' : Act → World → Prop} {Q' : Exit → Act → World → Prop} {w : World} (hnd : ∀ c, o.op ≠ .defer c) (hw : C w)
    (h : ∀ a w', C w' → K a → K' a w') (hh : o.quiet P a C K) : o.wpIn (WF.inRound l0) 0 P a w K' Q' := by
  obtain ⟨v, h1, h2⟩ := hh
  have h3 := h1 w hw
  unfold Oper.quietAt at h3
  refine ⟨fun _ _ => trivial, ?_⟩
  rw [show (WF.inRound l0).round = some l0 from rfl, Oper.semAt_some l0 _ _ hnd]
  generalize (execOp a.eval o).run P w = r at *
  cases r with
  | ok x w' =>
    cases x <;> simp only [Oper.quietUpon] at h3 <;> simp only [Oper.uponIn]
    case value u =>
      obtain ⟨e1, e2⟩ := h3
      rw [e1, e2]
      exact h _ _ hw h2
    case skip =>
      obtain ⟨e1, e2⟩ := h3
      rw [e1, ← e2]
      exact h _ _ hw h2
    case enter f args =>
      obtain ⟨e1, hc⟩ := h3
      rw [e1]
      exact ⟨fun hd => by simp [Fence.wide, Fence.inRound] at hd, CallsIn.inRound l0 (callsIn_wide.2 (hc.mono fun e w'' ⟨he, hw''⟩ => by subst he; exact h _ _ hw'' h2))⟩
  | halt x w' => simp only [Oper.quietUpon] at h3

theorem roundAny_of_quiet {Q : Act → Prop} {Q' : Exit → Act → World → Prop} (hnd : ∀ (i : Nat) (o : Oper), ops[i]? = some o → ∀ c, o.op ≠ .defer c) (hQ : ∀ a w, C w → Q a → Q' .normal a w) : ∀ (fuel : Nat) (listed : Array Bool) (a : Act) (w : World), C w →
    wpAnyQ P md ops C Q fuel listed a → wpAnyIn (WF.inRound l0) 0 P md ops Q' fuel listed a w
  | 0, _, _, _, hw, h => ⟨h.1, hQ _ _ hw h.2⟩
  | fuel + 1, listed, a, w, hw, h => ⟨fun h0 => hQ _ _ hw (h.1 h0), fun i hi => by
    have hh := h.2 i hi
    unfold qOp at hh
    unfold wpOpIn
    split
    · rename_i ho
      simp only [ho] at hh
      exact roundAny_of_quiet hnd hQ fuel _ _ _ hw hh
    · rename_i o ho
      simp only [ho] at hh
      split
      · rename_i hwd
        simp only [hwd, if_true] at hh
        exact round_of_quiet (hnd i o ho) hw (fun a' w' hw' => roundAny_of_quiet hnd hQ fuel _ a' w' hw') hh
      · rename_i hwd
        simp only [hwd] at hh
        exact ⟨fun _ _ => trivial, roundAny_of_quiet hnd hQ fuel _ _ _ hw hh⟩⟩

def noDefer (ops : List Oper) : Bool := ops.all fun o => match o.op with | .defer _ => false | _ => true
theorem noDefer_spec {ops : List Oper} (h : noDefer ops = true) (i : Nat) (o : Oper) (ho : ops.toArray[i]? = some o) : ∀ c, o.op ≠ .defer c := by
  intro c hc
  have hm : o ∈ ops := by
    rw [List.getElem?_toArray] at ho
    exact List.mem_of_getElem? ho
  have := (List.all_eq_true.1 h) o hm
  rw [hc] at this
  simp at this

theorem wpIn_region_round {id : Nat} {Q : Exit → Act → World → Prop} {a : Act} {w0 : World} {x : ExtW w0} {l : List Oper} (hm : P.follows .mixedOrders = true) (hB : Region.lexB .any l.toArray = true) (hnd : noDefer l = true)
    (h : wpQuiet P l.toArray (fun w' => ∃ x : ExtW w0, w' = x.w) (fun a' => ∀ w', (∃ x : ExtW w0, w' = x.w) → Q .normal a' w') l a) : (Code.region id l.toArray true).wpIn (WF.inRound l0) 0 P Q a x.w := by
  simp only [Region.lexB, Bool.and_eq_true] at hB
  refine wpIn_region_any hm (roundAny_of_quiet (C := fun w' => ∃ x : ExtW w0, w' = x.w) (Q := fun a' => ∀ w', (∃ x : ExtW w0, w' = x.w) → Q .normal a' w') (noDefer_spec hnd) (fun _ w' hw' h => h w' hw') _ _ _ _ (ExtW.of x.h.drew) ?_)
  have := wpAnyQ_lex (C := fun w' => ∃ x : ExtW w0, w' = x.w) (md := .any) hB.1 l 0 (Array.replicate l.toArray.size false) a (by simp) (by simpa using hB.2) h
  simpa using this
end
end Go.Proofs.Ytkcilgjkdiopnaa
