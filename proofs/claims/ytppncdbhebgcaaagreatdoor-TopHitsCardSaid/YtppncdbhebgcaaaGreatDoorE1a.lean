
/- Charts: walks of the reference's RankIn, At and IsTruth. -/
import Derived.Test.YtppncdbhebgcaaaGreatDoorCD
namespace Go.Proofs.YtppncdbhebgcaaaGreatDoor
open Go.RowKit

def rnkTo (t : List Int) (i k : Nat) : Nat := 1 + (List.range k).countP fun j => ahd j (vT t j) i (vT t i)
theorem rnkTo_succ (t : List Int) (i k : Nat) : rnkTo t i (k + 1) = rnkTo t i k + if ahd k (vT t k) i (vT t i) = true then 1 else 0 := by
  unfold rnkTo
  rw [List.range_succ, List.countP_append, List.countP_singleton]
  omega
theorem rnkTo_le (t : List Int) (i k : Nat) : rnkTo t i k ≤ 1 + k := by
  unfold rnkTo
  have := List.countP_le_length (p := fun j => ahd j (vT t j) i (vT t i)) (l := List.range k)
  rw [List.length_range] at this
  omega
theorem vT_get {t : List Int} {i : Nat} (h : i < t.length) : vT t i = t[i] := by
  unfold vT
  rw [List.getD_eq_getElem?_getD, List.getElem?_eq_getElem h]
  rfl

set_option maxRecDepth 20000 in
set_option maxHeartbeats 3200000 in
theorem RankIn06 (t : List Int) (i : Nat) (hi : i < t.length) (hl : t.length ≤ 1000) (p : Option Addr) (c : Nat) (w : World) (hv : IntsAt w p t) :
    Calls Tryz.prog 22 #[.slice p t.length c, .int .i64 (i : Int)] w (RetE (.int .i64 ((rnk t.length (vT t) i : Nat) : Int)) w) := by
  have HC := Lib.hid (fun k (hk : k < t.length) => hv.at k hk)
  obtain ⟨pb, po, rfl, hci⟩ := hv.at i hi
  have HCI := Lib.hid hci
  clear hv hci
  go_enter Tryz.func22, Tryz.ntmps22
  go_wp2
  go_loopw [5, 6] (fun u a wr => ∃ k : Nat, k ≤ t.length ∧ a = .int .i64 k ∧ u = .int .i64 ((rnkTo t i k : Nat) : Int) ∧ Ext w wr) (fun _ a _ => t.length - (intOf a).toNat)
  case atStart => exact ⟨0, Nat.zero_le _, rfl, rfl, Ext.refl _⟩
  case round =>
    obtain ⟨k, hk, rfl, rfl, hE⟩ := hrel
    have HE := Lib.hid hE
    clear hE
    by_cases hlt : k < t.length
    · have hlt' : (k : Int) < (t.length : Int) := by omega
      have hi' : (i : Int) < (t.length : Int) := by omega
      obtain ⟨pb', po', he, hck⟩ := HC.out k hlt
      cases he
      have HS := Lib.hid (rnkTo_succ t i k)
      have hle := rnkTo_le t i k
      obtain ⟨x, hx⟩ : ∃ x, x = t[k] := ⟨_, rfl⟩
      obtain ⟨y, hy⟩ : ∃ y, y = t[i] := ⟨_, rfl⟩
      have hci := HCI.out
      rw [vT_get hlt, vT_get hi, ← hx, ← hy] at HS
      rw [← hx] at hck
      rw [← hy] at hci
      obtain ⟨m, hm⟩ : ∃ m, m = rnkTo t i k := ⟨_, rfl⟩
      rw [← hm] at HS hle ⊢
      have c0 := fun z : ExtW wr => z.h.cell (HE.out.cell hck)
      have c1 := fun z : ExtW wr => z.h.cell (HE.out.cell hci)
      have hw : IntKind.i64.wrap ((m : Int) + 1) = (m : Int) + 1 := IntWalk.i64_in _ (by omega)
      clear hx hy hm hck hci
      by_cases h1 : y < x
      · have HN := Lib.hid (show rnkTo t i (k + 1) = m + 1 from by rw [HS.out, if_pos (ahd_iff.2 (Or.inl h1))])
        clear HS
        go_upto_region 5 with (fail)
        obtain ⟨z0, hz0⟩ := ExtW.of (Ext.refl wr)
        conv => arg 5; rw [hz0]
        clear hz0
        refine wp_region_extW (by kernel_rfl) (by kernel_rfl) ?_
        repeat (go_big_quiet_step (fail))
        refine wpQuiet_nil ?_
        rintro _ ⟨x2, rfl⟩
        have HE2 := Lib.hid x2.h
        clear c0 c1
        go_wp2
        go_roundw
        case rel => exact ⟨k + 1, by omega, by simp, by rw [HN.out]; simp, HE.out.trans HE2.out⟩
        case measure => simp [intOf]; omega
      · by_cases h2 : x = y
        · subst h2
          by_cases h3 : (k : Int) < (i : Int)
          · have HN := Lib.hid (show rnkTo t i (k + 1) = m + 1 from by rw [HS.out, if_pos (ahd_iff.2 (Or.inr ⟨rfl, by omega⟩))])
            clear HS
            go_upto_region 5 with (fail)
            obtain ⟨z0, hz0⟩ := ExtW.of (Ext.refl wr)
            conv => arg 5; rw [hz0]
            clear hz0
            refine wp_region_extW (by kernel_rfl) (by kernel_rfl) ?_
            repeat (go_big_quiet_step (fail))
            refine wpQuiet_nil ?_
            rintro _ ⟨x2, rfl⟩
            have HE2 := Lib.hid x2.h
            clear c0 c1
            go_wp2
            go_roundw
            case rel => exact ⟨k + 1, by omega, by simp, by rw [HN.out]; simp, HE.out.trans HE2.out⟩
            case measure => simp [intOf]; omega
          · have HN := Lib.hid (show rnkTo t i (k + 1) = m from by rw [HS.out, if_neg (by rw [ahd_iff]; omega)]; rfl)
            clear HS
            go_upto_region 5 with (fail)
            obtain ⟨z0, hz0⟩ := ExtW.of (Ext.refl wr)
            conv => arg 5; rw [hz0]
            clear hz0
            refine wp_region_extW (by kernel_rfl) (by kernel_rfl) ?_
            repeat (go_big_quiet_step (fail))
            refine wpQuiet_nil ?_
            rintro _ ⟨x2, rfl⟩
            have HE2 := Lib.hid x2.h
            clear c0 c1
            go_wp2
            go_roundw
            case rel => exact ⟨k + 1, by omega, by simp, by rw [HN.out], HE.out.trans HE2.out⟩
            case measure => simp [intOf]; omega
        · have h2' : (x == y) = false := by simpa using h2
          have HN := Lib.hid (show rnkTo t i (k + 1) = m from by rw [HS.out, if_neg (by rw [ahd_iff]; omega)]; rfl)
          clear HS h2
          go_upto_region 5 with (fail)
          obtain ⟨z0, hz0⟩ := ExtW.of (Ext.refl wr)
          conv => arg 5; rw [hz0]
          clear hz0
          refine wp_region_extW (by kernel_rfl) (by kernel_rfl) ?_
          repeat (go_big_quiet_step (fail))
          refine wpQuiet_nil ?_
          rintro _ ⟨x2, rfl⟩
          have HE2 := Lib.hid x2.h
          clear c0 c1
          go_wp2
          go_roundw
          case rel => exact ⟨k + 1, by omega, by simp, by rw [HN.out], HE.out.trans HE2.out⟩
          case measure => simp [intOf]; omega
    · obtain rfl : k = t.length := by omega
      have hge : ¬(t.length : Int) < (t.length : Int) := by omega
      go_wp2
      go_ret
      exact RetE.fin HE.out rfl

end Go.Proofs.YtppncdbhebgcaaaGreatDoor
