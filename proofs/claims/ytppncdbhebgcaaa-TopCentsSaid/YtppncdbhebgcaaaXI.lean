
/- What the chapter's examples answer. Calls from a boxed world whose answers are lists or spans; the walk of works. The answers of two meters whose truths are alike are the same. Lists of pairs, written one after another; the law functions' common steps. -/
import Derived.Test.YtppncdbhebgcaaaXH
namespace Go.Proofs.Ytppncdbhebgcaaa
open Go.RowKit

end Go.Proofs.Ytppncdbhebgcaaa
namespace Go.Proofs.Ytppncdbhebgcaaa
open Go.RowKit

theorem ExtW.callX {a : World} {P : Program} {f : FuncId} {args : Array Value} {v : Value} {x : ExtW a} (h : Calls P f args x.w (RetE v x.w)) :
    Calls P f args x.w fun e w'' => e = .returned v ∧ ∃ y : ExtW a, w'' = y.w ∧ Ext x.w y.w :=
  h.mono fun _ w'' ⟨he, hE⟩ => ⟨he, ⟨w'', x.h.trans hE⟩, rfl, hE⟩
theorem IntsAt.fr {W W' : World} {q : Option Addr} {l : List Int} {E : Nat → Prop} (h : IntsAt W q l) (hF : Fr E W W') (hE : ∀ a, q = some a → ¬E a.block) : IntsAt W' q l := by
  intro i hi
  obtain ⟨b, o, v, hp, hc, hv⟩ := h i hi
  exact ⟨b, o, v, hp, hF.cell hc (hE _ hp), hv⟩

end Go.Proofs.Ytppncdbhebgcaaa
namespace Go.Proofs.Ytppncdbhebgcaaa
open Go.RowKit

theorem isWkB_iff {a n : Int} : isWkB a n = true ↔ 0 ≤ a ∧ a < n := by unfold isWkB; simp
theorem askV_false {M : Mt} (hM : ValidM M) : askV M false = 1 := by unfold askV; rw [if_pos hM, if_neg (by decide)]
section
variable {M N : Mt} {T U : (Nat → Int) → (Nat → Int)}
theorem Iso.askB (h : Iso M N T U) (hM : ValidM M) (hN : ValidM N) (b : Bool) : askV M b = askV N b := by
  cases b
  · rw [askV_false hM, askV_false hN]
  · exact h.ask hM hN
theorem Iso.week (h : Iso M N T U) (hM : ValidM M) (hN : ValidM N) {a b : Int} {k : Int} (hb : isWkB a M.weeks.length = isWkB b N.weeks.length)
    (h1 : isWkB a M.weeks.length = true → (∀ D, T D (b.toNat + 1) - T D b.toNat = D (a.toNat + 1) - D a.toNat + k) ∧ ∀ E, U E (a.toNat + 1) - U E a.toNat + k = E (b.toNat + 1) - E b.toNat) :
    askV M (isWkB a M.weeks.length) = askV N (isWkB b N.weeks.length) ∧ (askV M (isWkB a M.weeks.length) = 0 → weekLo N b = weekLo M a + k ∧ weekHi N b = weekHi M a + k) ∧ (¬askV M (isWkB a M.weeks.length) = 0 → weekLo N b = weekLo M a ∧ weekHi N b = weekHi M a) := by
  have ha : askV M (isWkB a M.weeks.length) = askV N (isWkB b N.weeks.length) := by rw [hb]; exact h.askB hM hN _
  refine ⟨ha, fun hz => ?_, fun hz => ?_⟩
  · have hB : isWkB a M.weeks.length = true := by
      cases hB : isWkB a M.weeks.length
      · rw [hB, askV_false hM] at hz; exact absurd hz (by decide)
      · rfl
    have hB' : isWkB b N.weeks.length = true := by rw [← hb, hB]
    obtain ⟨e1, e2⟩ := h1 hB
    have b1 := isWkB_iff.1 hB
    have b2 := isWkB_iff.1 hB'
    have hz' := hz
    rw [hB] at hz'
    have hTM := (askV_iff hM).1 hz'
    obtain ⟨D, hD⟩ := hTM
    have s1 := (week_span_of hM (a := a.toNat) (b := a.toNat + 1) (by omega) (by omega) ⟨D, hD⟩).2
    have s2 := (week_span_of hN (a := b.toNat) (b := b.toNat + 1) (by omega) (by omega) ⟨T D, h.tru hD⟩).2
    have hp := h.plays (a := a.toNat) (b := a.toNat + 1) (c := b.toNat) (d := b.toNat + 1) (k := k) e1 e2
    have s3 : SpanOf (PlaysP N b.toNat (b.toNat + 1)) ((((sumsL M a.toNat (a.toNat + 1)).headD 0 : Nat) : Int) + k) ((((sumsL M a.toNat (a.toNat + 1)).getLastD 0 : Nat) : Int) + k) := by
      refine ⟨(hp _).1 s1.1, (hp _).1 s1.2.1, fun x hx => ?_⟩
      have := s1.2.2 (x - k) ((hp _).2 (by rw [show x - k + k = x by omega]; exact hx))
      omega
    have hu := s2.uniq s3
    unfold weekLo weekHi
    rw [← ha, hz, okN_0 rfl, okN_0 rfl, okN_0 rfl, okN_0 rfl]
    exact hu
  · unfold weekLo weekHi
    rw [← ha, okN_ne hz, okN_ne hz, okN_ne hz, okN_ne hz]
    exact ⟨rfl, rfl⟩
end

/-! The order of the readings. -/
end Go.Proofs.Ytppncdbhebgcaaa
namespace Go.Proofs.Ytppncdbhebgcaaa
open Go.RowKit

section
variable {l : List (Int × Int)} {f : Nat → Int × Int} {k : Nat}
end
end Go.Proofs.Ytppncdbhebgcaaa
