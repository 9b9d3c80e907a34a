/- The law of a range over a function, where what is yielded is a value that reads as something in memory. No program in sight. -/
import Derived.Test.YtkcilgjkdiopnaaRn2
namespace Go.Proofs.Ytkcilgjkdiopnaa
open Go.RowKit

/-- what a call of yield does with a value of which the iterator says S -/
def YieldV {α : Type} (P : Program) (l : Nat) (ok : α → Prop) (E : Nat → Prop) (n : Nat) (S : List α → α → Value → World → Prop) (J Jx : List α → World → Prop) : Prop :=
  ∀ pre x v W, ok x → J pre W → S pre x v W → n + 2 ≤ W.heap.size → YieldAt WF 0 P l #[v] W fun e W' =>
    ((e = .returned (.bool true) ∧ J (pre ++ [x]) W') ∨ (e = .returned (.bool false) ∧ Jx (pre ++ [x]) W')) ∧ Fr (fun k => E k ∨ k = n + 1) W W'

theorem range_lawV {α : Type} {P : Program} {g : Operand} {p : Tmp} {assign body : Code} {Q : Exit → Act → World → Prop} {a : Act} {w : World}
    {gf : Nat} {fst cap : Array Value} (hg : a.eval g = .func (.func gf) fst cap) (eg : ∀ args w, (callFunc gf args).run P w = .ok (.enter gf args) w)
    (ok : α → Prop) (L : List α) (E D : Nat → Prop) (hE : ¬E w.heap.size ∧ ¬E (w.heap.size + 1)) (hD : ∀ k, D k → k < w.heap.size)
    (S : List α → α → Value → World → Prop) (F : World → Prop)
    (I : List α → World → Prop) (Ix : Code → List α → World → Prop)
    (hI : ∀ pre W W', I pre W → Fr (fun k => D k ∨ k = w.heap.size ∨ k = w.heap.size + 1) W W' → w.heap.size ≤ W.heap.size → I pre W') (hIx : ∀ c pre W W', Ix c pre W → Fr (fun k => D k ∨ k = w.heap.size ∨ k = w.heap.size + 1) W W' → w.heap.size ≤ W.heap.size → Ix c pre W')
    (hF : ∀ W W', F W → Below w.heap.size W W' → F W')
    (h0 : I [] w)
    (hiter : ∀ l (J Jx : List α → World → Prop), (∀ pre W W', J pre W → Fr D W W' → w.heap.size + 2 ≤ W.heap.size → J pre W') → (∀ pre W W', Jx pre W → Fr D W W' → w.heap.size + 2 ≤ W.heap.size → Jx pre W') → ((∀ c pre W, ¬Ix c pre W) → ∀ pre W, ¬Jx pre W) →
      YieldV P l ok E w.heap.size S J Jx → ∀ W, Ext w W → w.heap.size + 2 ≤ W.heap.size → J [] W →
      CallsIn WF 0 P gf (fst ++ #[.func (.yield l) #[] #[]] ++ cap) W fun e W' => (∃ v, e = .returned v) ∧ ((J L W' ∧ F W') ∨ ∃ pre, pre <+: L ∧ Jx pre W') ∧ w.heap.size + 2 ≤ W'.heap.size)
    (hround : ∀ l pre x v W, ok x → l = w.heap.size + 1 → I pre W → S pre x v W → w.heap.size + 2 ≤ W.heap.size →
      assign.wpIn (WF.inRound l) 0 P (Exit.then (fun a1 W1 => Ext W W1 ∧ ∀ W2, But l W1 W2 → body.wpIn (WF.inRound l) 0 P (roundD I Ix (pre ++ [x]) E W2) a1 W2) (fun _ _ _ => False))
        { tmps := a.tmps.setIfInBounds p v, defers := [] } W)
    (hdone : ∀ W, I L W → F W → W.heap[w.heap.size]? = some (.deferred (some [])) → Q .normal { a with defers := { target := .collected w.heap.size, args := #[] } :: a.defers } W)
    (hstop : ∀ c pre W, pre <+: L → Ix c pre W → W.heap[w.heap.size]? = some (.deferred (some [])) → c.wpIn WF 0 P Q { a with defers := { target := .collected w.heap.size, args := #[] } :: a.defers } W) :
    (Code.rangeFunc g #[p] assign body).wpIn WF 0 P Q a w := by
  refine wpIn_rangeFunc ?_
  intro fn hfn
  obtain ⟨rec, hrec⟩ : ∃ rec : LoopState → Option Code → Loop, rec = fun st pe => { state := st, pending := pe, fn, tmps := a.tmps, params := #[p], assign, body, defers := w.heap.size } := ⟨_, rfl⟩
  obtain ⟨W1, hW1⟩ : ∃ W1, (w.alloc (.deferred (some []))).alloc (.loop (rec .ready none)) = W1 := ⟨_, rfl⟩
  have hs1 : W1.heap.size = w.heap.size + 2 := by rw [← hW1]; simp
  have hL1 : W1.heap[w.heap.size + 1]? = some (.loop (rec .ready none)) := by
    rw [← hW1]; have := World.alloc_heap_new (w.alloc (.deferred (some []))) (.loop (rec .ready none)); rwa [World.size_alloc] at this
  have hK1 : W1.heap[w.heap.size]? = some (.deferred (some [])) := by
    rw [← hW1]; exact (Below.heap_alloc _ _ _ (by simp)).trans (World.alloc_heap_new w _)
  have hE1 : Ext w W1 := by rw [← hW1]; exact Ext.alloc (Ext.alloc (Ext.refl w) _) _
  have hD0 : ∀ k, w.heap.size ≤ k → ¬D k := fun k hk h => absurd (hD k h) (by omega)
  refine ⟨w.heap.size + 1, [{ target := .collected w.heap.size, args := #[] }], W1, { target := .fn (.func gf) cap, args := fst ++ #[.func (.yield (w.heap.size + 1)) #[] #[]] }, W1, gf,
    fst ++ #[.func (.yield (w.heap.size + 1)) #[] #[]] ++ cap, W1, ?_, ?_, ?_, ?_, fun h => by simp [Fence.wide] at h, ?_⟩
  · rw [← hW1, hrec]; exact run_enterLoop_outer _ _ _ _ _
  · simp only [resolve, hg]
    simp [go_sem]
  · intro f' hf'; trivial
  · simp [invoke, go_sem, eg]
  · refine (hiter (w.heap.size + 1)
      (fun pre W => I pre W ∧ W.heap[w.heap.size + 1]? = some (.loop (rec .ready none)) ∧ W.heap[w.heap.size]? = some (.deferred (some [])))
      (fun pre W => ∃ c, Ix c pre W ∧ W.heap[w.heap.size + 1]? = some (.loop (rec .done (some c))) ∧ W.heap[w.heap.size]? = some (.deferred (some [])))
      (fun pre A B hs hb hz => ⟨hI _ _ _ hs.1 (hb.mono fun k h => .inl h) (by omega), (hb.block _ (by omega) (hD0 _ (by omega))).trans hs.2.1, (hb.block _ (by omega) (hD0 _ (by omega))).trans hs.2.2⟩)
      (fun pre A B hs hb hz => by obtain ⟨c, hc, hl, hk⟩ := hs; exact ⟨c, hIx _ _ _ _ hc (hb.mono fun k h => .inl h) (by omega), (hb.block _ (by omega) (hD0 _ (by omega))).trans hl, (hb.block _ (by omega) (hD0 _ (by omega))).trans hk⟩)
      (fun hno pre W hs => by obtain ⟨c, hc, -⟩ := hs; exact hno _ _ _ hc)
      ?_ W1 hE1 (by omega) ⟨hI _ _ _ h0 (hE1.fr _) (Nat.le_refl _), hL1, hK1⟩).mono ?_
    · -- ONE ROUND
      rintro pre x v W hok ⟨hi, hl, hk⟩ hS hsz
      have hy := run_yield (P := P) (args := #[v]) hl (by rw [hrec]; rfl)
      rw [hrec] at hy
      have hy' : (Instr.yield (w.heap.size + 1) #[v]).run P W = .ok (.round (w.heap.size + 1) fn (a.tmps.setIfInBounds p v) assign body) W := by simpa using hy
      refine ⟨fn, _, assign, body, hy', roundIn_of_wpIn hfn (wpIn_mono (hround _ pre x v W hok rfl hi hS hsz) ?_)⟩
      intro e a1 WA hA
      cases e with
      | normal =>
        obtain ⟨hEA, hbody⟩ := hA
        have hlA : WA.heap[w.heap.size + 1]? = some (.loop (rec .ready none)) := (Below.block hEA _ (by omega)).trans hl
        have hkA : WA.heap[w.heap.size]? = some (.deferred (some [])) := (Below.block hEA _ (by omega)).trans hk
        have hltA : w.heap.size + 1 < WA.heap.size := (Array.getElem?_eq_some_iff.1 hlA).1
        refine ⟨_, run_beginRound hlA (by rw [hrec]), ?_⟩
        obtain ⟨W2, hW2⟩ : ∃ W2, WA.putObj (w.heap.size + 1) (.loop { rec .ready none with state := .busy }) = W2 := ⟨_, rfl⟩
        rw [hW2]
        have hB2 : But (w.heap.size + 1) WA W2 := by rw [← hW2]; exact But.put _ _ _
        have hl2 : W2.heap[w.heap.size + 1]? = some (.loop { rec .ready none with state := .busy }) := by rw [← hW2]; exact World.putObj_heap_same hltA
        have hk2 : W2.heap[w.heap.size]? = some (.deferred (some [])) := (hB2.block _ (by omega)).trans hkA
        refine wpIn_mono (hbody W2 hB2) ?_
        have fin : ∀ (jump : Option Code) (W3 : World), Fr E W2 W3 →
            (Instr.endRound (w.heap.size + 1) jump).run P W3 = .ok (.bool jump.isNone) (W3.putObj (w.heap.size + 1) (.loop (rec (if jump.isNone then .ready else .done) jump))) ∧
            (W3.putObj (w.heap.size + 1) (.loop (rec (if jump.isNone then .ready else .done) jump))).heap[w.heap.size + 1]? = some (.loop (rec (if jump.isNone then .ready else .done) jump)) ∧
            (W3.putObj (w.heap.size + 1) (.loop (rec (if jump.isNone then .ready else .done) jump))).heap[w.heap.size]? = some (.deferred (some [])) ∧
            Fr (fun k => E k ∨ k = w.heap.size + 1) W (W3.putObj (w.heap.size + 1) (.loop (rec (if jump.isNone then .ready else .done) jump))) ∧
            Fr (fun k => D k ∨ k = w.heap.size ∨ k = w.heap.size + 1) W3 (W3.putObj (w.heap.size + 1) (.loop (rec (if jump.isNone then .ready else .done) jump))) ∧ w.heap.size ≤ W3.heap.size := fun jump W3 h3 => by
          have hsz2 := hB2.size
          have hsz3 := h3.size
          have hl3 := (h3.block _ (by omega) hE.2).trans hl2
          have hk3 := (h3.block _ (by omega) hE.1).trans hk2
          have := run_endRound (P := P) jump hl3
          rw [hrec] at this ⊢
          refine ⟨this, World.putObj_heap_same (Array.getElem?_eq_some_iff.1 hl3).1, (World.putObj_heap_other (by omega)).trans hk3, ?_, (But.put _ _ _).fr (.inr (.inr rfl)), by omega⟩
          exact (((hEA.fr _).trans (hB2.fr (.inr rfl))).trans (h3.mono fun k h => .inl h)).trans ((But.put _ _ _).fr (.inr rfl))
        rintro e a3 W3 hp
        cases e with
        | normal =>
          obtain ⟨h3, hi3⟩ := hp
          obtain ⟨hr, hl4, hk4, hx4, hb4, hz4⟩ := fin none W3 h3
          exact ⟨_, _, hr, .inl ⟨rfl, hI _ _ _ hi3 hb4 hz4, hl4, hk4⟩, hx4⟩
        | ret =>
          obtain ⟨h3, hi3⟩ := hp
          obtain ⟨hr, hl4, hk4, hx4, hb4, hz4⟩ := fin (some .ret) W3 h3
          exact ⟨_, _, hr, .inr ⟨rfl, .ret, hIx _ _ _ _ hi3 hb4 hz4, hl4, hk4⟩, hx4⟩
        | exit id =>
          obtain ⟨h3, hi3⟩ := hp
          obtain ⟨hr, hl4, hk4, hx4, hb4, hz4⟩ := fin (some (.exit id)) W3 h3
          exact ⟨_, _, hr, .inr ⟨rfl, .exit id, hIx _ _ _ _ hi3 hb4 hz4, hl4, hk4⟩, hx4⟩
        | goto t =>
          obtain ⟨h3, hi3⟩ := hp
          obtain ⟨hr, hl4, hk4, hx4, hb4, hz4⟩ := fin (some (.goto t)) W3 h3
          exact ⟨_, _, hr, .inr ⟨rfl, .goto t, hIx _ _ _ _ hi3 hb4 hz4, hl4, hk4⟩, hx4⟩
        | panic ch => exact hp.elim
        | outgrown => exact hp.elim
      | exit id => exact hA.elim
      | goto t => exact hA.elim
      | ret => exact hA.elim
      | panic ch => exact hA.elim
      | outgrown => exact hA.elim
    · -- BEHIND THE ITERATOR
      rintro e W2 ⟨⟨v, rfl⟩, (⟨⟨hi, hl, hk⟩, hf⟩ | ⟨pre, hpre, c, hi, hl, hk⟩), hz⟩
      · exact ⟨none, _, by have := run_endLoop (P := P) hl (by rw [hrec]; simp); rw [hrec] at this; exact this, hdone _ (hI _ _ _ hi ((But.put _ _ _).fr (.inr (.inr rfl))) (by omega)) (hF _ _ hf ((But.put _ _ _).below (by omega))) ((World.putObj_heap_other (by omega)).trans hk)⟩
      · exact ⟨some c, _, by have := run_endLoop (P := P) hl (by rw [hrec]; simp); rw [hrec] at this; exact this, hstop c pre _ hpre (hIx _ _ _ _ hi ((But.put _ _ _).fr (.inr (.inr rfl))) (by omega)) ((World.putObj_heap_other (by omega)).trans hk)⟩
end Go.Proofs.Ytkcilgjkdiopnaa
