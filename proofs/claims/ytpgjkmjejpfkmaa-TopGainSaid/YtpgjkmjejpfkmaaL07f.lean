/- The chapter's example, reckoned out. -/
import Derived.Test.YtpgjkmjejpfkmaaL07e
namespace Go.Proofs.Ytpgjkmjejpfkmaa
open Go.RowKit

theorem bP_eq {P : Prop} {b : Bool} (h : b = true ↔ P) : bP P = b := by
  cases b
  · exact bP_f fun hp => by simpa using h.2 hp
  · exact bP_t (h.1 rfl)
theorem bP_dec {P : Prop} [Decidable P] : bP P = decide P := bP_eq decide_eq_true_iff

def fitsC (V : Visit) (f : Nat → Nat) (n : Nat) : Bool :=
  ((List.range n).all fun k => decide ((popc (dif (f k) (V.now k)) : Int) ≤ V.S.changes) && decide (dif (V.keeps k) (f k) = 0)) && (List.range 6).all fun t => decide ((cntB f t 3 : Int) ≤ V.copies t)
theorem fitsC_iff (V : Visit) (f : Nat → Nat) (n : Nat) : fitsC V f n = true ↔ FitsTo V f n := by
  simp [fitsC, FitsTo, FitBox]
def plansC (V : Visit) : Nat → (Nat → Nat) → Nat → List (Nat → Nat)
  | 0, f, _ => [f]
  | d + 1, f, k => (List.range (2 ^ V.S.stock.length)).flatMap fun s =>
      if popc s = (V.S.boxes.getD k []).length ∧ fitsC V (upd f k s) (k + 1) = true then plansC V d (upd f k s) (k + 1) else []
theorem plansC_eq (V : Visit) : ∀ d f k, plansL V d f k = plansC V d f k
  | 0, f, k => rfl
  | d + 1, f, k => by
    unfold plansL plansC
    congr 1
    funext s
    rw [bP_eq (fitsC_iff V (upd f k s) (k + 1)), plansC_eq V d]
def fewC (V : Visit) (goal : Int) (m : Int) (q : Nat → Nat) : Int :=
  if goal ≤ sumTo V q V.S.boxes.length ∧ (m < 0 ∨ (allTo V q V.S.boxes.length : Int) < m) then (allTo V q V.S.boxes.length : Int) else m
theorem fewC_eq (V : Visit) (goal m : Int) (q : Nat → Nat) : fewStep V goal m q = fewC V goal m q := by
  unfold fewStep fewC
  simp only [bP_iff]
theorem fewOf_c (V : Visit) (goal : Int) (L : List (Nat → Nat)) : fewOf V goal L = L.foldl (fewC V goal) (-1) := by
  unfold fewOf
  rw [show fewStep V goal = fewC V goal from funext fun m => funext fun q => fewC_eq V goal m q]

theorem rises2 {a b lo hi : Int} (h1 : lo ≤ a) (h2 : a < b) (h3 : b ≤ hi) : Rises [a, b] lo hi := by
  constructor
  · rintro (_ | _ | i) h
    · exact ⟨h1, by show a ≤ hi; omega⟩
    · exact ⟨by show lo ≤ b; omega, h3⟩
    · exact absurd h (by simp)
  · rintro (_ | i) h
    · exact h2
    · exact absurd h (by simp)
theorem ex_valid : Valid exS := by
  refine ⟨by decide, by decide, by decide, by decide, by decide, ?_, by decide, by decide, by decide, ?_⟩
  · rintro (_ | _ | i) h
    · exact ⟨by show 2 ≤ 3; decide, rises2 (by decide) (by decide) (by decide)⟩
    · exact ⟨by show 2 ≤ 3; decide, rises2 (by decide) (by decide) (by decide)⟩
    · exact absurd h (by simp [exS])
  · intro i h
    exact absurd h (by simp [exS])
theorem ex_best : bestN (openV exS) = 28 := by
  unfold bestN allP
  rw [plansC_eq]
  decide +kernel
theorem ex_copy : bestN (moreCopies (openV exS) 3) = 29 := by
  unfold bestN allP
  rw [plansC_eq]
  decide +kernel
theorem ex_fair : fairOf (openV exS) (allP (openV exS)) = 12 := by
  unfold allP
  rw [plansC_eq]
  decide +kernel
theorem ex_few : fewOf (openV exS) 28 (allP (openV exS)) = 2 := by
  unfold allP
  rw [plansC_eq, fewOf_c]
  decide +kernel
def exL : List (List Int) := [[0, 3], [0, 2]]
theorem ex_plan : IsPlan exS exL := by
  refine ⟨rfl, ?_⟩
  rintro (_ | _ | i) h
  · exact ⟨rfl, rises2 (by decide) (by decide) (by decide)⟩
  · exact ⟨rfl, rises2 (by decide) (by decide) (by decide)⟩
  · exact absurd h (by simp [exL])
theorem ex_fits : FitsTo (openV exS) (planTo exL exL.length) exS.boxes.length := by
  rw [← fitsC_iff]
  decide +kernel
theorem ex_bestV : ansV exS (bestN (openV exS)) = .tuple #[.int .i64 28, .int .i64 0] := by rw [ansV_t ex_valid, ex_best]
theorem ex_fairV : fairV exS = .tuple #[.int .i64 12, .int .i64 0] := by
  unfold fairV
  rw [if_pos (bP_t ex_valid), if_neg (by decide), ex_fair]
theorem ex_fewV : fewV exS 28 = .tuple #[.int .i64 2, .int .i64 0] := by
  unfold fewV
  rw [if_pos (bP_t ex_valid), if_pos (bP_t (by decide)), ex_few, if_neg (by rw [bP_iff]; decide)]
theorem ex_copyV : copyV exS 3 = .tuple #[.int .i64 1, .int .i64 0] := by
  unfold copyV
  rw [if_pos (bP_t ex_valid), if_pos (bP_t (by decide)), ex_best, show ((3 : Int).toNat) = 3 from rfl, ex_copy]
  rfl
theorem ex_fitsV : fitsV exS exL = .tuple #[.bool true, .int .i64 0] := by
  unfold fitsV
  rw [if_pos (bP_t ex_valid), if_pos (bP_t ex_plan), bP_t ex_fits]
end Go.Proofs.Ytpgjkmjejpfkmaa
