/- The walk of parse. -/
import Derived.Test.YtpgjkmjejpfkmaaW07a
import Derived.Test.YtpgjkmjejpfkmaaW01
namespace Go.Proofs.Ytpgjkmjejpfkmaa
open Go.RowKit

/-- v is returned, the world is as it was -/
def RetS (v : Value) (w : World) (e : Ending) (w' : World) : Prop := e = .returned v ∧ w = w'
theorem RetS.q {v : Value} {w : World} {P : Program} {f : FuncId} {args : Array Value} (h : Calls P f args w (RetS v w)) : Calls P f args w (RetQ v w) := h.mono fun _ _ ⟨he, hw⟩ => ⟨he, 0, hw.symm⟩
theorem RetS.bt {P : Program} {f : FuncId} {args : Array Value} {w : World} {p : Prop} (h : p) (hc : Calls P f args w (RetS (.bool (bP p)) w)) : Calls P f args w (RetS (.bool true) w) := by
  rwa [bP_t h] at hc
theorem RetS.bf {P : Program} {f : FuncId} {args : Array Value} {w : World} {p : Prop} (h : ¬p) (hc : Calls P f args w (RetS (.bool (bP p)) w)) : Calls P f args w (RetS (.bool false) w) := by
  rwa [bP_f h] at hc

theorem RetS.tt {p : Prop} {w : World} (h : p) : RetS (.bool (bP p)) w (.returned (.bool true)) w := ⟨by rw [bP_t h], rfl⟩
theorem RetS.ff {p : Prop} {w : World} (h : ¬p) : RetS (.bool (bP p)) w (.returned (.bool false)) w := ⟨by rw [bP_f h], rfl⟩
theorem RetS.fin {v v' : Value} {w : World} (h : v' = v) : RetS v w (.returned v') w := ⟨by rw [h], rfl⟩
theorem wrap_pow : ∀ x : Nat, x < 6 → IntKind.u64.wrap ((2 : Int) ^ x) = ((2 ^ x : Nat) : Int) := by decide

set_option maxHeartbeats 400000 in
theorem within07s (n lo hi : Int) (w : World) :
    Calls Try.prog 57 #[.int .i64 n, .int .i64 lo, .int .i64 hi] w (RetS (.bool (bP (lo ≤ n ∧ n ≤ hi))) w) := by
  go_enter Try.func57, Try.ntmps57
  by_cases h1 : lo ≤ n
  · by_cases h2 : n ≤ hi
    · go_wp2
      go_ret
      exact RetS.tt ⟨h1, h2⟩
    · go_wp2
      go_ret
      exact RetS.ff (by omega)
  · go_wp2
    go_ret
    exact RetS.ff (by omega)

/-- the set of titles -/
def maskOf (l : List Int) : Nat := l.foldl (fun s n => s ||| 2 ^ n.toNat) 0
theorem maskOf_snoc (l : List Int) (n : Int) : maskOf (l ++ [n]) = maskOf l ||| 2 ^ n.toNat := by simp [maskOf]
theorem mask_fold_lt (l : List Int) (h : ∀ n ∈ l, 0 ≤ n ∧ n ≤ 5) : ∀ s, s < 64 → l.foldl (fun s n => s ||| 2 ^ n.toNat) s < 64 := by
  induction l with
  | nil => intro s hs; exact hs
  | cons x r ih =>
    intro s hs
    have hx := h x (by simp)
    refine ih (fun n hn => h n (by simp [hn])) _ ?_
    exact Nat.or_lt_two_pow (n := 6) hs (Nat.pow_lt_pow_right (by decide) (by omega))
theorem maskOf_lt (l : List Int) (h : ∀ n ∈ l, 0 ≤ n ∧ n ≤ 5) : maskOf l < 64 := mask_fold_lt l h 0 (by decide)
theorem Rises.mem {l : List Int} {lo hi : Int} (h : Rises l lo hi) : ∀ n ∈ l, lo ≤ n ∧ n ≤ hi := by
  intro n hn
  obtain ⟨i, hi, rfl⟩ := List.getElem_of_mem hn
  exact h.1 i hi

/-- what parse returns -/
noncomputable def parseV (l : List Int) (t : Int) : Value := .tuple #[.int .u64 (if bP (Rises l 0 (t - 1)) = true then maskOf l else 0), .bool (bP (Rises l 0 (t - 1)))]
theorem parseV_t {l : List Int} {t : Int} (h : Rises l 0 (t - 1)) : parseV l t = .tuple #[.int .u64 (maskOf l), .bool true] := by simp [parseV, bP_t h]
theorem parseV_f {l : List Int} {t : Int} (h : ¬Rises l 0 (t - 1)) : parseV l t = .tuple #[.int .u64 0, .bool false] := by simp [parseV, bP_f h]

set_option maxHeartbeats 800000 in
theorem parse07 (p : Option Addr) (l : List Int) (c t : Nat) (w : World) (hl : l.length ≤ 100000) (ht : t ≤ 6) (h : IntsAt w p l) :
    Calls Try.prog 72 #[.slice p l.length c, .int .i64 t] w (RetS (parseV l t) w) := by
  go_enter Try.func72, Try.ntmps72
  go_wp2
  go_loop [6, 11] (fun s i => ∃ k m : Nat, k ≤ l.length ∧ i = .int .i64 k ∧ s = .int .u64 m ∧ m = maskOf (l.take k) ∧ Rises (l.take k) 0 ((t : Int) - 1)) (fun _ i => l.length - (intOf i).toNat)
  case atStart => exact ⟨0, 0, Nat.zero_le _, rfl, rfl, rfl, ⟨fun i h => absurd h (by simp), fun i h => absurd h (by simp)⟩⟩
  case round =>
    obtain ⟨k, m, hk, rfl, rfl, hm, hr⟩ := hrel
    have hm64 : m < 64 := by
      rw [hm]; exact maskOf_lt _ (fun n hn => by have := hr.mem n hn; omega)
    have HM := Lib.hid hm
    have HR := Lib.hid hr
    clear hr hm
    by_cases hlt : k < l.length
    · obtain ⟨b, o, rfl, hc⟩ := h.at k hlt
      by_cases hw : 0 ≤ l[k] ∧ l[k] ≤ (t : Int) - 1
      · have HW := Lib.hid hw
        have hpw := wrap_pow (l[k]).toNat (by omega)
        have h64 : 2 ^ (l[k]).toNat < 64 := Nat.pow_lt_pow_right (n := 6) (a := 2) (by decide) (by omega)
        have hor := bits_or_u64_nat m (2 ^ (l[k]).toNat) (by omega) (by omega)
        have hn0 := hw.1
        have hn1 : l[k] ≤ 5 := by omega
        have HC := Lib.hid (RetS.bt hw (within07s l[k] 0 ((t : Int) - 1) w))
        clear hw
        have hsn : Hid (maskOf (l.take (k + 1)) = maskOf (l.take k) ||| 2 ^ (l[k]).toNat) := by
          rw [List.take_succ_eq_append_getElem hlt]; exact maskOf_snoc _ _
        obtain ⟨P2, hP2⟩ : ∃ P2 : Nat, P2 = 2 ^ (l[k]).toNat := ⟨_, rfl⟩
        rw [← hP2] at hpw h64 hor hsn
        have HP2 := Lib.hid hP2
        clear hP2
        by_cases hk0 : 0 < k
        · obtain ⟨b', o', he, hc'⟩ := h.at (k - 1) (by omega)
          obtain ⟨rfl, rfl⟩ : b = b' ∧ o = o' := by simpa using he
          clear he
          have hx2 : ((k : Int) - 1).toNat = k - 1 := by omega
          have hx3 : 0 ≤ (k : Int) - 1 := by omega
          by_cases hle : l[k] ≤ l[k-1]
          · have HLE := Lib.hid hle
            go_wp2_with (go_at_call 57; refine HC.out.mono ?_; rintro e w' ⟨rfl, rfl⟩)
            go_ret2
            refine RetS.fin (parseV_f ?_).symm
            intro hR
            have := hR.2 (k-1) (by omega)
            simp only [show k - 1 + 1 = k from by omega] at this
            have := HLE.out
            omega
          · have HLE := Lib.hid hle
            go_wp2_with (go_at_call 57; refine HC.out.mono ?_; rintro e w' ⟨rfl, rfl⟩)
            go_round
            case rel => exact ⟨k + 1, m ||| P2, by omega, by go_num, by first | rfl | (rw [hpw, hor]), by rw [hsn.out, HM.out], Rises.take_succ hlt HR.out HW.out.1 HW.out.2 (by intro j hj; obtain rfl : j = k - 1 := (by omega); have := HLE.out; omega)⟩
            case measure => simp [intOf]; omega
        · obtain rfl : k = 0 := by omega
          simp only [Nat.add_zero] at hc
          clear hk0
          go_wp2_with (go_at_call 57; refine HC.out.mono ?_; rintro e w' ⟨rfl, rfl⟩)
          go_round
          case rel => exact ⟨0 + 1, m ||| P2, by omega, by go_num, by first | rfl | (rw [hpw, hor]), by rw [hsn.out, HM.out], Rises.take_succ hlt HR.out HW.out.1 HW.out.2 (by intro j hj; omega)⟩
          case measure => simp [intOf]; omega
      · have HW := Lib.hid hw
        have HC := Lib.hid (RetS.bf hw (within07s l[k] 0 ((t : Int) - 1) w))
        clear hw
        go_wp2_with (go_at_call 57; refine HC.out.mono ?_; rintro e w' ⟨rfl, rfl⟩)
        go_ret2
        refine RetS.fin (parseV_f ?_).symm
        intro hR
        exact HW.out (hR.1 k hlt)
    · have hfin : Hid (parseV l t = .tuple #[.int .u64 m, .bool true]) := by
        have h1 := HR.out
        have h2 := HM.out
        rw [List.take_of_length_le (by omega)] at h1 h2
        show _ = _
        rw [parseV_t h1, h2]
      go_wp2
      go_ret2
      exact RetS.fin hfin.out.symm
end Go.Proofs.Ytpgjkmjejpfkmaa
