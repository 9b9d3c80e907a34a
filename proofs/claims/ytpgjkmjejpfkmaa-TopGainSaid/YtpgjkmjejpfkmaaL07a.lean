/- The walks of farLists, Far, ready, isKnown and of the reference's Check. -/
import Derived.Test.YtpgjkmjejpfkmaaW07j
import Derived.Test.YtpgjkmjejpfkmaaW01
namespace Go.Proofs.Ytpgjkmjejpfkmaa
open Go.RowKit

/-- lists that a statement leaves alone -/
def FarL (L : List (List Int)) : Prop := 40 < L.length ∨ ∃ l ∈ L, 40 < l.length

set_option maxHeartbeats 800000 in
theorem farLists07 (p : Option Addr) (L : List (List Int)) (c : Nat) (w : World) (hl : L.length ≤ 9223372036854775807) (hr : ∀ l ∈ L, l.length ≤ 9223372036854775807) (h : ListsAt w p L) :
    Calls Try.prog 29 #[.slice p L.length c] w (RetQ (.bool (bP (FarL L))) w) := by
  have HR := Lib.hid hr
  clear hr
  by_cases h40 : 40 < L.length
  · go_enter Try.func29, Try.ntmps29
    go_wp2
    go_ret
    exact RetQ.tt (by repeat (first | exact Qt.refl _ | assumption | refine Qt.drewN ?_ _ | refine Qt.drew ?_)) (Or.inl h40)
  · go_enter Try.func29, Try.ntmps29
    go_wp2
    go_loopw [3] (fun i wr => ∃ k : Nat, k ≤ L.length ∧ i = .int .i64 k ∧ (∀ x ∈ L.take k, ¬40 < x.length) ∧ Qt w wr) (fun i _ => L.length - (intOf i).toNat)
    case atStart => exact ⟨0, by omega, rfl, by simp, Qt.refl _⟩
    case round =>
      obtain ⟨k, hk, rfl, hf, hQ⟩ := hrel
      have HF := Lib.hid hf
      clear hf
      by_cases hlt : k < L.length
      · obtain ⟨b, o, q, c', rfl, hc, -⟩ := (h.ext hQ.ext).at k hlt
        have hlen := HR.out L[k] (List.getElem_mem hlt)
        by_cases hx : 40 < L[k].length
        · go_wp2
          try (go_quiet (fail))
          go_wp2
          go_ret
          exact RetQ.tt (by repeat (first | exact Qt.refl _ | assumption | refine Qt.drewN ?_ _ | refine Qt.drew ?_)) (Or.inr ⟨_, List.getElem_mem hlt, hx⟩)
        · have HX := Lib.hid hx
          go_wp2
          try (go_quiet (fail))
          go_wp2
          go_roundw
          case rel => exact ⟨k + 1, by omega, by go_num, by
            rw [List.take_succ_eq_append_getElem hlt]
            intro x hx
            rcases List.mem_append.1 hx with h1 | h1
            · exact HF.out x h1
            · rw [List.mem_singleton.1 h1]; exact HX.out, (by repeat (first | exact Qt.refl _ | assumption | refine Qt.drewN ?_ _ | refine Qt.drew ?_))⟩
          case measure => simp [intOf]; omega
      · go_wp2
        go_ret
        refine RetQ.ff (by repeat (first | exact Qt.refl _ | assumption | refine Qt.drewN ?_ _ | refine Qt.drew ?_)) ?_
        rintro (h1 | ⟨l, hl, h1⟩)
        · omega
        · exact HF.out l (by rwa [List.take_of_length_le (by omega)]) h1

set_option maxHeartbeats 400000 in
theorem rwithin07 (n lo hi : Int) (w : World) :
    Calls Try.prog 61 #[.int .i64 n, .int .i64 lo, .int .i64 hi] w (RetQ (.bool (bP (lo ≤ n ∧ n ≤ hi))) w) := by
  have HC := Lib.hid (Within01 n lo hi w)
  go_enter Try.func61, Try.ntmps61
  go_wp2_with fail
  refine HC.out.mono ?_
  rintro e w' ⟨rfl, m, rfl⟩
  go_wp2
  go_ret
  exact RetQ.fin (by repeat (first | exact Qt.refl _ | assumption | refine Qt.drewN ?_ _ | refine Qt.drew ?_)) rfl

set_option maxHeartbeats 400000 in
theorem rin07 (p : Option Addr) (l : List Int) (c : Nat) (n : Int) (w : World) (hl : l.length ≤ 100000) (h : IntsAt w p l) :
    Calls Try.prog 78 #[.slice p l.length c, .int .i64 n] w (RetQ (.bool (bP (n ∈ l))) w) := by
  have HC := Lib.hid (In01 p l c n w hl h)
  go_enter Try.func78, Try.ntmps78
  go_wp2_with fail
  refine HC.out.mono ?_
  rintro e w' ⟨rfl, m, rfl⟩
  go_wp2
  go_ret
  exact RetQ.fin (by repeat (first | exact Qt.refl _ | assumption | refine Qt.drewN ?_ _ | refine Qt.drew ?_)) rfl

set_option maxHeartbeats 400000 in
theorem isKnown07 (n : Int) (w : World) : Calls Try.prog 20 #[.int .i64 n] w (RetQ (.bool (bP (n = 0 ∨ n = 3))) w) := by
  by_cases h0 : n = 0
  · subst h0
    go_enter Try.func20, Try.ntmps20
    go_wp2
    go_ret
    exact RetQ.tt (by repeat (first | exact Qt.refl _ | assumption | refine Qt.drewN ?_ _ | refine Qt.drew ?_)) (by simp)
  · have h0' : (n == 0) = false := by simpa using h0
    have H0 := Lib.hid h0
    clear h0
    go_enter Try.func20, Try.ntmps20
    go_wp2
    go_ret
    refine RetQ.of (by repeat (first | exact Qt.refl _ | assumption | refine Qt.drewN ?_ _ | refine Qt.drew ?_)) ?_
    have := H0.out
    simp [this]
end Go.Proofs.Ytpgjkmjejpfkmaa
