/- The walks of the reference's has and many. -/
import Derived.Test.YtkcilgjkdiopnaaR3e
import Derived.Test.YtkcilgjkdiopnaaE03k
namespace Go.Proofs.Ytkcilgjkdiopnaa
open Go.RowKit

theorem hasR_spell : ∀ s : Fin 64, ∀ t : Fin 6, (bits BinOp.and IntKind.i64 ((s.1 : Int) / 2 ^ t.1) 1 == 1) = s.1.testBit t.1 := by decide +kernel
set_option maxHeartbeats 400000 in
theorem hasR03 (s : Nat) (t : Nat) (w : World) (hs1 : s < 64) (ht2 : t < 6) :
    Calls Try.prog 120 #[.int .i64 s, .int .i64 t] w (RetQ (.bool (s.testBit t)) w) := by
  go_enter Try.func120, Try.ntmps120
  go_wp2
  go_ret
  exact RetQ.fin (by repeat (first | exact Qt.refl _ | assumption | refine Qt.drewN ?_ _ | refine Qt.drew ?_)) (congrArg Value.bool (hasR_spell ⟨s, hs1⟩ ⟨t, ht2⟩))
theorem popc_half : ∀ m : Fin 64, popc m.1 = m.1 % 2 + popc (m.1 / 2) := by decide +kernel
set_option maxHeartbeats 800000 in
theorem manyR03 (s : Nat) (w : World) (hs : s < 64) :
    Calls Try.prog 108 #[.int .i64 s] w (RetQ (.int .i64 (popc s)) w) := by
  have hps := popc_le s
  obtain ⟨ps, hp⟩ : ∃ ps, ps = popc s := ⟨_, rfl⟩
  rw [← hp] at hps ⊢
  have HP := Lib.hid hp
  clear hp
  go_enter Try.func108, Try.ntmps108
  go_wp2
  go_loop [0, 3] (fun a b => ∃ m n : Nat, m < 64 ∧ a = .int .i64 m ∧ b = .int .i64 n ∧ n + popc m = ps) (fun a _ => (intOf a).toNat)
  case atStart => exact ⟨s, 0, hs, rfl, rfl, by rw [HP.out]; omega⟩
  case round =>
    obtain ⟨m, n, hm, rfl, rfl, hn⟩ := hrel
    have hh := popc_half ⟨m, hm⟩
    simp only at hh
    by_cases h0 : 0 < m
    · have h0' : (0 : Int) < (m : Int) := by omega
      have hq : Int.tdiv (m : Int) 2 = ((m / 2 : Nat) : Int) := by rw [Int.tdiv_eq_ediv_of_nonneg (by omega)]; omega
      have hr : Int.tmod (m : Int) 2 = ((m % 2 : Nat) : Int) := by rw [Int.tmod_eq_emod_of_nonneg (by omega)]; omega
      obtain ⟨m2, hm2⟩ : ∃ m2, m2 = m / 2 := ⟨_, rfl⟩
      obtain ⟨r2, hr2⟩ : ∃ r2, r2 = m % 2 := ⟨_, rfl⟩
      rw [← hm2] at hq hh
      rw [← hr2] at hr hh
      have h2 : m2 < m := by omega
      have h3 : r2 ≤ 1 := by omega
      have hn2 : n + r2 + popc m2 = ps := by omega
      have hnb : n ≤ 6 := by omega
      have HN := Lib.hid hn2
      clear hh hn hm2 hr2 hn2
      go_wp2
      go_round
      case rel => exact ⟨m2, n + r2, by omega, by go_num, by go_num, HN.out⟩
      case measure => simp [intOf]; omega
    · obtain rfl : m = 0 := by omega
      have hn0 : n = ps := by have := popc_zero; omega
      subst hn0
      clear hh hn
      go_wp2
      go_ret
      exact RetQ.fin (by repeat (first | exact Qt.refl _ | assumption | refine Qt.drewN ?_ _ | refine Qt.drew ?_)) rfl
end Go.Proofs.Ytkcilgjkdiopnaa
