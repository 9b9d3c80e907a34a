/- The chapter's example, reckoned out. -/
import Derived.Test.YtkcilgjkdiopnaaL03a
namespace Go.Proofs.Ytkcilgjkdiopnaa
open Go.RowKit

theorem ex_validW : ValidW exX where
  weeks := by decide
  age := by decide
  step := by decide
  price := by decide
  rough := by decide
  recs := by decide
  rg := by decide
  up := by
    rintro (_ | _ | i) h
    · simp [exX]
    · simp [exX]
    · exact absurd h (by simp [exX])
  rc := by
    rintro (_ | _ | i) h
    · exact ⟨by simp [exX], by simp [exX], by simp [exX], by simp [exX], by show ∀ k (h : k < ([10, 10, 10] : List Int).length), 0 ≤ ([10, 10, 10] : List Int)[k] ∧ ([10, 10, 10] : List Int)[k] ≤ 99; decide⟩
    · exact ⟨by simp [exX], by simp [exX], by simp [exX], by simp [exX], by show ∀ k (h : k < ([5, 5, 5] : List Int).length), 0 ≤ ([5, 5, 5] : List Int)[k] ∧ ([5, 5, 5] : List Int)[k] ≤ 99; decide⟩
    · exact absurd h (by simp [exX])
theorem ex_plan (l : List Wk) (h0 : l.length = 3) (h : ∀ x ∈ l, x.recs = [] ∧ 0 ≤ x.needle ∧ x.needle ≤ 1) : PlanOK exX l := by
  refine ⟨by rw [h0]; rfl, fun x hx => ⟨?_, (h x hx).2⟩⟩
  rw [(h x hx).1]
  exact ⟨fun i hi => absurd hi (by simp), fun i hi => absurd hi (by simp)⟩
theorem ex_planP : PlanOK exX exP := ex_plan exP rfl (by decide)
theorem ex_planZ : PlanOK exX exZ := ex_plan exZ rfl (by decide)
theorem ex_run : wornL 2 (runTo exX exP 3).worn = [30, 35] ∧ (runTo exX exP 3).age = 15 ∧ (runTo exX exP 3).cost = 100 := by decide +kernel
theorem ex_firstBad : firstBad exX exZ = 2 := by decide +kernel
theorem ex_goodV : goodV exX exZ = .tuple #[.bool false, .int .i64 2, .int .i64 0] := by
  rw [goodV_ok ex_validW ex_planZ, ex_firstBad]
  rfl
theorem ex_best : (bestW exX).map (fun c => allW exX c exX.price) = some 30 := by decide +kernel
theorem ex_cheapV : cheapV exX = .tuple #[.int .i64 30, .int .i64 0] := by
  have h := ex_best
  unfold cheapV
  cases hb : bestW exX with
  | none => rw [hb] at h; cases h
  | some c => rw [hb] at h; simp at h; simp [h]
instance chEq : DecidableEq Ch := fun a b => decidable_of_iff (a.needles = b.needles ∧ a.records = b.records) (by cases a; cases b; simp)
theorem ex_choices : choicesW exX 3 = [⟨0, [4, 0]⟩, ⟨1, [4, 0]⟩, ⟨2, [4, 0]⟩, ⟨3, [4, 0]⟩, ⟨4, [4, 0]⟩, ⟨5, [4, 0]⟩, ⟨6, [0, 0]⟩, ⟨7, [0, 0]⟩] := by decide +kernel
theorem ex_worthTo : worthTo exX [⟨0, [4, 0]⟩, ⟨1, [4, 0]⟩, ⟨2, [4, 0]⟩, ⟨3, [4, 0]⟩, ⟨4, [4, 0]⟩, ⟨5, [4, 0]⟩, ⟨6, [0, 0]⟩, ⟨7, [0, 0]⟩] 1000 = some 15 := by decide +kernel
theorem worthV_some {X : Wr} {L : List Ch} {c : Ch} {n : Nat} (h : bestW X = some c) (hL : choicesW X X.weeks.toNat = L) (h2 : worthTo X L 1000 = some n) : worthV X = .tuple #[.int .i64 n, .int .i64 0] := by
  unfold worthV
  rw [h, hL]
  simp only
  rw [h2]
theorem ex_worthV : worthV exX = .tuple #[.int .i64 15, .int .i64 0] := by
  cases hb : bestW exX with
  | none => have h := ex_best; rw [hb] at h; cases h
  | some c => exact worthV_some hb ex_choices ex_worthTo
theorem ex_last : lastTo exX 29 3 = 2 := by decide +kernel
theorem ex_lastV : lastV exX 29 = .tuple #[.int .i64 2, .int .i64 0] := by
  unfold lastV
  rw [if_pos (by decide), show exX.weeks.toNat = 3 from rfl, ex_last]
  rfl
theorem ex_modest : ModestW exX := ⟨by decide, by decide, by decide⟩
end Go.Proofs.Ytkcilgjkdiopnaa
