/- The walks of the small functions of package swaps. -/
import Derived.Test.YtpgjkmjejpfkmaaRows
import Derived.Test.YtpgjkmjejpfkmaaLib
namespace Go.Proofs.Ytpgjkmjejpfkmaa
open Go.RowKit

set_option maxHeartbeats 400000 in
theorem within07 (n lo hi : Int) (w : World) :
    Calls Try.prog 57 #[.int .i64 n, .int .i64 lo, .int .i64 hi] w (RetQ (.bool (bP (lo ≤ n ∧ n ≤ hi))) w) := by
  go_enter Try.func57, Try.ntmps57
  by_cases h1 : lo ≤ n
  · by_cases h2 : n ≤ hi
    · go_wp2
      go_ret
      exact RetQ.t0 ⟨h1, h2⟩
    · go_wp2
      go_ret
      exact RetQ.f0 (by omega)
  · go_wp2
    go_ret
    exact RetQ.f0 (by omega)

theorem has_spell (s t : Nat) (hs2 : s < 18446744073709551616) : (bits BinOp.and IntKind.u64 ((s : Int) / 2 ^ t) 1 == 1) = s.testBit t := by
  have h1 : ((s : Int) / 2 ^ t) = ((s / 2 ^ t : Nat) : Int) := by simp
  have h2 : s / 2 ^ t < 18446744073709551616 := Nat.lt_of_le_of_lt (Nat.div_le_self _ _) hs2
  rw [h1, show (1 : Int) = ((1 : Nat) : Int) from rfl, bits_and_u64_nat _ _ h2 (by decide), Nat.testBit_eq_decide_div_mod_eq, Nat.and_one_is_mod]
  generalize s / 2 ^ t % 2 = x
  by_cases hx : x = 1
  · simp [hx]
  · simp [hx]; omega

set_option maxHeartbeats 400000 in
theorem has07 (s : Nat) (t : Nat) (w : World) (hs1 : s < 64) (ht2 : t < 64) :
    Calls Try.prog 88 #[.int .u64 s, .int .i64 t] w (RetQ (.bool (s.testBit t)) w) := by
  have hs2 : s < 18446744073709551616 := by omega
  go_enter Try.func88, Try.ntmps88
  go_wp2
  go_ret
  exact RetQ.fin (by repeat (first | exact Qt.refl _ | assumption | refine Qt.drewN ?_ _ | refine Qt.drew ?_)) (congrArg Value.bool (has_spell s t hs2))

/-- how many bits a small set has -/
def popc (s : Nat) : Nat := ((List.range 6).filter s.testBit).length

set_option maxHeartbeats 1000000 in
set_option maxRecDepth 10000 in
theorem OnesCount64_07 (s : Nat) (w : World) (hs2 : s < 64) :
    Calls Try.prog 117 #[.int .u64 s] w (RetQ (.int .i64 (popc s)) w) := by
  go_enter Try.func117, Try.ntmps117
  go_wp2
  go_ret
  refine RetQ.fin (by repeat (first | exact Qt.refl _ | assumption | refine Qt.drewN ?_ _ | refine Qt.drew ?_)) (congrArg (Value.int .i64) ?_)
  revert s
  decide +kernel

set_option maxHeartbeats 400000 in
theorem OnesCount_07 (s : Nat) (w : World) (hs2 : s < 64) :
    Calls Try.prog 107 #[.int .u64 s] w (RetQ (.int .i64 (popc s)) w) := by
  go_enter Try.func107, Try.ntmps107
  go_wp2_with (go_at_call 117; refine (OnesCount64_07 s _ hs2).mono ?_; rintro e w' ⟨rfl, m, rfl⟩)
  go_ret
  exact RetQ.fin (by repeat (first | exact Qt.refl _ | assumption | refine Qt.drewN ?_ _ | refine Qt.drew ?_)) rfl

set_option maxHeartbeats 400000 in
theorem many07 (s : Nat) (w : World) (hs2 : s < 64) :
    Calls Try.prog 101 #[.int .u64 s] w (RetQ (.int .i64 (popc s)) w) := by
  go_enter Try.func101, Try.ntmps101
  go_wp2_with (go_at_call 107; refine (OnesCount_07 s _ hs2).mono ?_; rintro e w' ⟨rfl, m, rfl⟩)
  go_ret
  exact RetQ.fin (by repeat (first | exact Qt.refl _ | assumption | refine Qt.drewN ?_ _ | refine Qt.drew ?_)) rfl
end Go.Proofs.Ytpgjkmjejpfkmaa
