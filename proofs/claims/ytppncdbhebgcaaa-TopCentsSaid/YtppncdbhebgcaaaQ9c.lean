
/- The walks of the reference's Sums and Shows. -/
import Derived.Test.YtppncdbhebgcaaaQ9b
import Derived.Test.YtppncdbhebgcaaaQ8d
namespace Go.Proofs.Ytppncdbhebgcaaa
open Go.RowKit Go.Maps

theorem CntInt.step {w' : World} {b k : Nat} {g : Lit → Int} {G : Int × List Int → Int} {T : List (Int × List Int)} {s : Int} (hgf : ∀ s, g (.int .i64 s) = (cntT G T k s : Nat)) (hsu : ∀ s', cntT G T (k + 1) s' = cntT G T k s' + if s = s' then 1 else 0)
    (h : CntMap w' 3 b (k + 1) (cntUp g (.int .i64 s) ((cntT G T k s : Nat) + 1))) : CntInt w' b (k + 1) (fun s => (cntT G T (k + 1) s : Nat)) := by
  refine ⟨_, h, fun s' => ?_⟩
  show _ = ((cntT G T (k + 1) s' : Nat) : Int)
  by_cases e : s = s'
  · subst e
    rw [cntUp_same, hsu, if_pos rfl]
    rfl
  · rw [cntUp_other _ _ (fun h => e (by injection h with _ h; exact h.symm)), hgf, hsu, if_neg e]
    rfl

end Go.Proofs.Ytppncdbhebgcaaa
