/- The walks of the small functions of shellacref01: Within, In, SameInts, Rising. -/
import Derived.Test.YtkcilgjkdiopnaaRows
import Derived.Test.YtkcilgjkdiopnaaLib
namespace Go.Proofs.Ytkcilgjkdiopnaa
open Go.RowKit

set_option maxHeartbeats 400000 in
theorem Within01 (n lo hi : Int) (w : World) :
    Calls Try.prog 85 #[.int .i64 n, .int .i64 lo, .int .i64 hi] w (RetQ (.bool (bP (lo ≤ n ∧ n ≤ hi))) w) := by
  go_enter Try.func85, Try.ntmps85
  by_cases h1 : lo ≤ n
  · by_cases h2 : n ≤ hi
    · go_wp2
      go_ret
      exact RetQ.t0 ⟨h1, h2⟩
    · go_wp2
      go_ret
      exact RetQ.f0 (by omega)
  · go_wp2
    go_ret
    exact RetQ.f0 (by omega)

set_option maxHeartbeats 400000 in
theorem In01 (p : Option Addr) (l : List Int) (c : Nat) (n : Int) (w : World) (hl : l.length ≤ 100000) (h : IntsAt w p l) :
    Calls Try.prog 39 #[.slice p l.length c, .int .i64 n] w (RetQ (.bool (bP (n ∈ l))) w) := by
  go_enter Try.func39, Try.ntmps39
  go_wp2
  go_loop [5] (fun i => ∃ k : Nat, k ≤ l.length ∧ i = .int .i64 k ∧ n ∉ l.take k) (fun i => l.length - (intOf i).toNat)
  case atStart => exact ⟨0, Nat.zero_le _, rfl, by simp⟩
  case round =>
    obtain ⟨k, hk, rfl, hr⟩ := hrel
    have HR := Lib.hid hr
    clear hr
    by_cases hlt : k < l.length
    · obtain ⟨b, o, rfl, hc⟩ := h.at k hlt
      by_cases he : l[k] = n
      · have HE := Lib.hid he
        have he' : (l[k] == n) = true := by simpa using he
        clear he
        go_wp2
        go_ret
        exact RetQ.t0 (HE.out ▸ List.getElem_mem hlt)
      · have he' : (l[k] == n) = false := by simpa using he
        have HE := Lib.hid he
        clear he
        go_wp2
        go_round
        case rel => exact ⟨k + 1, by omega, by go_num, by rw [List.take_succ_eq_append_getElem hlt]; simp only [List.mem_append, List.mem_singleton, not_or]; exact ⟨HR.out, fun e => HE.out e.symm⟩⟩
        case measure => simp [intOf]; omega
    · go_wp2
      go_ret
      exact RetQ.f0 (by have := HR.out; rwa [List.take_of_length_le (by omega)] at this)

set_option maxHeartbeats 400000 in
theorem SameInts01 (p q : Option Addr) (a b : List Int) (c d : Nat) (w : World) (hl : a.length ≤ 100000) (hm : b.length ≤ 9223372036854775807) (ha : IntsAt w p a) (hb : IntsAt w q b) :
    Calls Try.prog 25 #[.slice p a.length c, .slice q b.length d] w (RetQ (.bool (bP (a = b))) w) := by
  by_cases hlen : a.length = b.length
  · have hlen' : ((a.length : Int) != (b.length : Int)) = false := by simp [hlen]
    have HL := Lib.hid hlen
    clear hlen
    go_enter Try.func25, Try.ntmps25
    go_wp2
    go_loopw [5] (fun i wr => ∃ k : Nat, k ≤ a.length ∧ i = .int .i64 k ∧ a.take k = b.take k ∧ Qt w wr) (fun i _ => a.length - (intOf i).toNat)
    case atStart => exact ⟨0, Nat.zero_le _, rfl, by simp, Qt.refl _⟩
    case round =>
      obtain ⟨k, hk, rfl, hr, hQ⟩ := hrel
      have HR := Lib.hid hr
      clear hr
      replace ha := ha.ext hQ.ext
      replace hb := hb.ext hQ.ext
      by_cases hlt : k < a.length
      · have hlt2 : k < b.length := by have := HL.out; omega
        obtain ⟨b1, o1, rfl, hc1⟩ := ha.at k hlt
        obtain ⟨b2, o2, rfl, hc2⟩ := hb.at k hlt2
        by_cases he : a[k] = b[k]
        · have he' : (a[k] != b[k]) = false := by simpa using he
          have HE := Lib.hid he
          clear he
          go_wp2
          go_quiet (fail)
          go_wp2
          go_roundw
          case rel => exact ⟨k + 1, by omega, by go_num, by rw [List.take_succ_eq_append_getElem hlt, List.take_succ_eq_append_getElem hlt2, HR.out, HE.out], (by repeat (first | exact Qt.refl _ | assumption | refine Qt.drewN ?_ _ | refine Qt.drew ?_))⟩
          case measure => simp [intOf]; omega
        · have he' : (a[k] != b[k]) = true := by simpa using he
          have HE := Lib.hid he
          clear he
          go_wp2
          go_quiet (fail)
          go_wp2
          go_ret
          refine RetQ.ff (by repeat (first | exact Qt.refl _ | assumption | refine Qt.drewN ?_ _ | refine Qt.drew ?_)) ?_
          intro e
          subst e
          exact HE.out rfl
      · go_wp2
        go_ret
        exact RetQ.tt (by repeat (first | exact Qt.refl _ | assumption | refine Qt.drewN ?_ _ | refine Qt.drew ?_)) (by have h1 := HR.out; have h2 := HL.out; rwa [List.take_of_length_le (by omega), List.take_of_length_le (by omega)] at h1)
  · have hlen' : ((a.length : Int) != (b.length : Int)) = true := by simp; omega
    have HL := Lib.hid hlen
    clear hlen
    go_enter Try.func25, Try.ntmps25
    go_wp2
    go_ret
    exact RetQ.f0 (fun e => HL.out (by rw [e]))

theorem Rises.take_succ {l : List Int} {lo hi : Int} {k : Nat} (hk : k < l.length) (h : Rises (l.take k) lo hi) (h1 : lo ≤ l[k]) (h2 : l[k] ≤ hi) (h3 : ∀ j (h : j + 1 = k), l[j]'(by omega) < l[k]) : Rises (l.take (k + 1)) lo hi := by
  obtain ⟨ha, hb⟩ := h
  refine ⟨fun i hi' => ?_, fun i hi' => ?_⟩
  · simp only [List.length_take] at hi'
    rw [List.getElem_take]
    by_cases e : i = k
    · subst e; exact ⟨h1, h2⟩
    · have := ha i (by simp only [List.length_take]; omega)
      rwa [List.getElem_take] at this
  · simp only [List.length_take] at hi'
    rw [List.getElem_take, List.getElem_take]
    by_cases e : i + 1 = k
    · subst e; exact h3 i rfl
    · have := hb i (by simp only [List.length_take]; omega)
      rwa [List.getElem_take, List.getElem_take] at this

set_option maxHeartbeats 800000 in
theorem Rising01 (p : Option Addr) (l : List Int) (c : Nat) (lo hi : Int) (w : World) (hl : l.length ≤ 100000) (h : IntsAt w p l) :
    Calls Try.prog 72 #[.slice p l.length c, .int .i64 lo, .int .i64 hi] w (RetQ (.bool (bP (Rises l lo hi))) w) := by
  go_enter Try.func72, Try.ntmps72
  go_wp2
  go_loopw [7] (fun i wr => ∃ k : Nat, k ≤ l.length ∧ i = .int .i64 k ∧ Rises (l.take k) lo hi ∧ Qt w wr) (fun i _ => l.length - (intOf i).toNat)
  case atStart => exact ⟨0, Nat.zero_le _, rfl, ⟨fun i h => absurd h (by simp), fun i h => absurd h (by simp)⟩, Qt.refl _⟩
  case round =>
    obtain ⟨k, hk, rfl, hr, hQ⟩ := hrel
    have HR := Lib.hid hr
    clear hr
    replace h := h.ext hQ.ext
    by_cases hlt : k < l.length
    · obtain ⟨b, o, rfl, hc⟩ := h.at k hlt
      by_cases hw : lo ≤ l[k] ∧ l[k] ≤ hi
      · have HW := Lib.hid hw
        clear hw
        by_cases hk0 : 0 < k
        · obtain ⟨b', o', he, hc'⟩ := h.at (k - 1) (by omega)
          obtain ⟨rfl, rfl⟩ : b = b' ∧ o = o' := by simpa using he
          clear he
          have hk0' : decide ((0 : Int) < k) = true := by simp; omega
          have hx : IntKind.i64.wrap ((k : Int) - 1) = (k : Int) - 1 := by rw [IntKind.wrap_i64]; omega
          have hx2 : ((k : Int) - 1).toNat = k - 1 := by omega
          have hx3 : 0 ≤ (k : Int) - 1 := by omega
          by_cases hle : l[k] ≤ l[k-1]
          · have hle' : decide (l[k] ≤ l[k-1]) = true := by simpa using hle
            go_wp2
            go_quiet ((go_at_call 85; exact RetQ.quiet (RetQ.bt HW.out (Within01 _ _ _ _))))
            go_wp2
            go_ret
            refine RetQ.ff (by repeat (first | exact Qt.refl _ | assumption | refine Qt.drewN ?_ _ | refine Qt.drew ?_)) ?_
            intro hR
            have := hR.2 (k-1) (by omega)
            simp only [show k - 1 + 1 = k from by omega] at this
            omega
          · have hle' : decide (l[k] ≤ l[k-1]) = false := by simpa using hle
            go_wp2
            go_quiet ((go_at_call 85; exact RetQ.quiet (RetQ.bt HW.out (Within01 _ _ _ _))))
            go_wp2
            go_roundw
            case rel => exact ⟨k + 1, by omega, by go_num, Rises.take_succ hlt HR.out HW.out.1 HW.out.2 (by intro j hj; obtain rfl : j = k - 1 := (by omega); exact hle), (by repeat (first | exact Qt.refl _ | assumption | refine Qt.drewN ?_ _ | refine Qt.drew ?_))⟩
            case measure => simp [intOf]; omega
        · obtain rfl : k = 0 := by omega
          simp only [Nat.add_zero] at hc
          clear hk0
          go_wp2
          go_quiet ((go_at_call 85; exact RetQ.quiet (RetQ.bt HW.out (Within01 _ _ _ _))))
          go_wp2
          go_roundw
          case rel => exact ⟨0 + 1, by omega, by go_num, Rises.take_succ hlt HR.out HW.out.1 HW.out.2 (by intro j hj; omega), (by repeat (first | exact Qt.refl _ | assumption | refine Qt.drewN ?_ _ | refine Qt.drew ?_))⟩
          case measure => simp [intOf]; omega
      · have HW := Lib.hid hw
        clear hw
        go_wp2
        go_quiet ((go_at_call 85; exact RetQ.quiet (RetQ.bf HW.out (Within01 _ _ _ _))))
        go_wp2
        go_ret
        exact RetQ.ff (by repeat (first | exact Qt.refl _ | assumption | refine Qt.drewN ?_ _ | refine Qt.drew ?_)) (fun hR => HW.out (hR.1 k hlt))
    · go_wp2
      go_ret
      exact RetQ.tt (by repeat (first | exact Qt.refl _ | assumption | refine Qt.drewN ?_ _ | refine Qt.drew ?_)) (by have := HR.out; rwa [List.take_of_length_le (by omega)] at this)
end Go.Proofs.Ytkcilgjkdiopnaa
