
/- Charts: walks of the reference's RankIn, At and IsTruth. -/
import Derived.Test.YtaoamnhchidjfaaGreatDoorCD
namespace Go.Proofs.YtaoamnhchidjfaaGreatDoor
open Go.RowKit

def rnkTo (t : List Int) (i k : Nat) : Nat := 1 + (List.range k).countP fun j => ahd j (vT t j) i (vT t i)
theorem rnkTo_succ (t : List Int) (i k : Nat) : rnkTo t i (k + 1) = rnkTo t i k + if ahd k (vT t k) i (vT t i) = true then 1 else 0 := by
  unfold rnkTo
  rw [List.range_succ, List.countP_append, List.countP_singleton]
  omega
theorem rnkTo_le (t : List Int) (i k : Nat) : rnkTo t i k ≤ 1 + k := by
  unfold rnkTo
  have := List.countP_le_length (p := fun j => ahd j (vT t j) i (vT t i)) (l := List.range k)
  rw [List.length_range] at this
  omega
theorem rnkTo_all (t : List Int) (i : Nat) : rnkTo t i t.length = rnk t.length (vT t) i := rfl
theorem vT_get {t : List Int} {i : Nat} (h : i < t.length) : vT t i = t[i] := by
  unfold vT
  rw [List.getD_eq_getElem?_getD, List.getElem?_eq_getElem h]
  rfl

set_option maxRecDepth 20000 in
set_option maxHeartbeats 3200000 in
theorem RankIn06 (t : List Int) (i : Nat) (hi : i < t.length) (hl : t.length ≤ 1000) (p : Option Addr) (c : Nat) (w : World) (hv : IntsAt w p t) :
    Calls Tryz.prog 31 #[.slice p t.length c, .int .i64 (i : Int)] w (RetE (.int .i64 ((rnk t.length (vT t) i : Nat) : Int)) w) := by
  have HC := Lib.hid (fun k (hk : k < t.length) => hv.at k hk)
  obtain ⟨pb, po, rfl, hci⟩ := hv.at i hi
  have HCI := Lib.hid hci
  clear hv hci
  go_enter Tryz.func31, Tryz.ntmps31
  go_wp2
  go_loopw [5, 6] (fun u a wr => ∃ k : Nat, k ≤ t.length ∧ a = .int .i64 k ∧ u = .int .i64 ((rnkTo t i k : Nat) : Int) ∧ Ext w wr) (fun _ a _ => t.length - (intOf a).toNat)
  case atStart => exact ⟨0, Nat.zero_le _, rfl, rfl, Ext.refl _⟩
  case round =>
    obtain ⟨k, hk, rfl, rfl, hE⟩ := hrel
    have HE := Lib.hid hE
    clear hE
    by_cases hlt : k < t.length
    · have hlt' : (k : Int) < (t.length : Int) := by omega
      have hi' : (i : Int) < (t.length : Int) := by omega
      obtain ⟨pb', po', he, hck⟩ := HC.out k hlt
      cases he
      have HS := Lib.hid (rnkTo_succ t i k)
      have hle := rnkTo_le t i k
      obtain ⟨x, hx⟩ : ∃ x, x = t[k] := ⟨_, rfl⟩
      obtain ⟨y, hy⟩ : ∃ y, y = t[i] := ⟨_, rfl⟩
      have hci := HCI.out
      rw [vT_get hlt, vT_get hi, ← hx, ← hy] at HS
      rw [← hx] at hck
      rw [← hy] at hci
      obtain ⟨m, hm⟩ : ∃ m, m = rnkTo t i k := ⟨_, rfl⟩
      rw [← hm] at HS hle ⊢
      have c0 := fun z : ExtW wr => z.h.cell (HE.out.cell hck)
      have c1 := fun z : ExtW wr => z.h.cell (HE.out.cell hci)
      have hw : IntKind.i64.wrap ((m : Int) + 1) = (m : Int) + 1 := IntWalk.i64_in _ (by omega)
      clear hx hy hm hck hci
      by_cases h1 : y < x
      · have HN := Lib.hid (show rnkTo t i (k + 1) = m + 1 from by rw [HS.out, if_pos (ahd_iff.2 (Or.inl h1))])
        clear HS
        go_upto_region 5 with (fail)
        obtain ⟨z0, hz0⟩ := ExtW.of (Ext.refl wr)
        conv => arg 5; rw [hz0]
        clear hz0
        refine wp_region_extW (by kernel_rfl) (by kernel_rfl) ?_
        repeat (go_big_quiet_step (fail))
        refine wpQuiet_nil ?_
        rintro _ ⟨x2, rfl⟩
        have HE2 := Lib.hid x2.h
        clear c0 c1
        go_wp2
        go_roundw
        case rel => exact ⟨k + 1, by omega, by simp, by rw [HN.out]; simp, HE.out.trans HE2.out⟩
        case measure => simp [intOf]; omega
      · by_cases h2 : x = y
        · subst h2
          by_cases h3 : (k : Int) < (i : Int)
          · have HN := Lib.hid (show rnkTo t i (k + 1) = m + 1 from by rw [HS.out, if_pos (ahd_iff.2 (Or.inr ⟨rfl, by omega⟩))])
            clear HS
            go_upto_region 5 with (fail)
            obtain ⟨z0, hz0⟩ := ExtW.of (Ext.refl wr)
            conv => arg 5; rw [hz0]
            clear hz0
            refine wp_region_extW (by kernel_rfl) (by kernel_rfl) ?_
            repeat (go_big_quiet_step (fail))
            refine wpQuiet_nil ?_
            rintro _ ⟨x2, rfl⟩
            have HE2 := Lib.hid x2.h
            clear c0 c1
            go_wp2
            go_roundw
            case rel => exact ⟨k + 1, by omega, by simp, by rw [HN.out]; simp, HE.out.trans HE2.out⟩
            case measure => simp [intOf]; omega
          · have HN := Lib.hid (show rnkTo t i (k + 1) = m from by rw [HS.out, if_neg (by rw [ahd_iff]; omega)]; rfl)
            clear HS
            go_upto_region 5 with (fail)
            obtain ⟨z0, hz0⟩ := ExtW.of (Ext.refl wr)
            conv => arg 5; rw [hz0]
            clear hz0
            refine wp_region_extW (by kernel_rfl) (by kernel_rfl) ?_
            repeat (go_big_quiet_step (fail))
            refine wpQuiet_nil ?_
            rintro _ ⟨x2, rfl⟩
            have HE2 := Lib.hid x2.h
            clear c0 c1
            go_wp2
            go_roundw
            case rel => exact ⟨k + 1, by omega, by simp, by rw [HN.out], HE.out.trans HE2.out⟩
            case measure => simp [intOf]; omega
        · have h2' : (x == y) = false := by simpa using h2
          have HN := Lib.hid (show rnkTo t i (k + 1) = m from by rw [HS.out, if_neg (by rw [ahd_iff]; omega)]; rfl)
          clear HS h2
          go_upto_region 5 with (fail)
          obtain ⟨z0, hz0⟩ := ExtW.of (Ext.refl wr)
          conv => arg 5; rw [hz0]
          clear hz0
          refine wp_region_extW (by kernel_rfl) (by kernel_rfl) ?_
          repeat (go_big_quiet_step (fail))
          refine wpQuiet_nil ?_
          rintro _ ⟨x2, rfl⟩
          have HE2 := Lib.hid x2.h
          clear c0 c1
          go_wp2
          go_roundw
          case rel => exact ⟨k + 1, by omega, by simp, by rw [HN.out], HE.out.trans HE2.out⟩
          case measure => simp [intOf]; omega
    · obtain rfl : k = t.length := by omega
      have hge : ¬(t.length : Int) < (t.length : Int) := by omega
      go_wp2
      go_ret
      exact RetE.fin HE.out rfl

set_option maxRecDepth 20000 in
set_option maxHeartbeats 3200000 in
theorem At06 (t : List Int) (r : Nat) (h1 : 1 ≤ r) (h2 : r ≤ t.length) (hl : t.length ≤ 1000) (p : Option Addr) (c : Nat) (w : World) (hv : IntsAt w p t) :
    Calls Tryz.prog 32 #[.slice p t.length c, .int .i64 (r : Int)] w (RetE (.int .i64 (atN t.length (vT t) r)) w) := by
  have HR := Lib.hid (fun k (hk : k < t.length) y (h : Ext w y) => RankIn06 t k hk hl p c y (hv.ext h))
  clear hv
  go_enter Tryz.func32, Tryz.ntmps32
  go_wp2
  go_loopw [5] (fun a wr => ∃ k : Nat, k ≤ t.length ∧ a = .int .i64 k ∧ (∀ j, j < k → rnk t.length (vT t) j ≠ r) ∧ Ext w wr) (fun a _ => t.length - (intOf a).toNat)
  case atStart => exact ⟨0, Nat.zero_le _, rfl, fun j hj => absurd hj (by omega), Ext.refl _⟩
  case round =>
    obtain ⟨k, hk, rfl, hn, hE⟩ := hrel
    have HE := Lib.hid hE
    have HNF := Lib.hid hn
    clear hE hn
    by_cases hlt : k < t.length
    · have hlt' : (k : Int) < (t.length : Int) := by omega
      have HRK := Lib.hid (HR.out k hlt wr HE.out)
      obtain ⟨m, hm⟩ : ∃ m, m = rnk t.length (vT t) k := ⟨_, rfl⟩
      rw [← hm] at HRK
      have HM := Lib.hid hm
      clear hm
      by_cases he : m = r
      · subst he
        have HF := Lib.hid (atN_of hlt HM.out.symm)
        go_wp2_with (go_at_call 31; refine HRK.out.mono ?_; rintro e w3 ⟨rfl, hE3⟩)
        go_ret
        exact RetE.fin (HE.out.trans hE3) (by rw [HF.out]; rfl)
      · have he' : (((m : Nat) : Int) == (r : Int)) = false := by simp; omega
        have HNX := Lib.hid (show ∀ j, j < k + 1 → rnk t.length (vT t) j ≠ r from fun j hj => by
          by_cases e : j = k
          · subst e; rw [← HM.out]; exact he
          · exact HNF.out j (by omega))
        clear he
        go_wp2_with (go_at_call 31; refine HRK.out.mono ?_; rintro e w3 ⟨rfl, hE3⟩)
        go_roundw
        case rel => exact ⟨k + 1, by omega, by simp, HNX.out, HE.out.trans hE3⟩
        case measure => simp [intOf]; omega
    · exfalso
      obtain ⟨i, hi, hr⟩ := rnk_at (n := t.length) (vT t) h1 h2
      exact HNF.out i (by omega) hr

theorem in06 (p : Option Addr) (l : List Int) (c : Nat) (n : Int) (w : World) (hl : l.length ≤ 100000) (h : IntsAt w p l) :
    Calls Tryz.prog 72 #[.slice p l.length c, .int .i64 n] w (RetE (.bool (inL l n)) w) := by
  have HI := Lib.hid (In02 p l c n w hl h)
  go_enter Tryz.func72, Tryz.ntmps72
  go_wp2_with (go_at_call 33; refine HI.out.mono ?_; rintro e w3 ⟨rfl, hE3⟩)
  go_ret
  exact RetE.fin hE3 rfl
/-- one of the numbers of each title -/
def isTruB (T : Tab) (t : List Int) : Bool := decide (t.length = T.length) && (List.range T.length).all fun i => inL (rowT T i) (vT t i)
theorem isTruB_iff {T : Tab} {t : List Int} : isTruB T t = true ↔ t.length = T.length ∧ TruN T.length (rowT T) (vT t) := by
  unfold isTruB TruN
  simp only [Bool.and_eq_true, decide_eq_true_eq, List.all_eq_true, List.mem_range, inL_iff]

set_option maxRecDepth 20000 in
set_option maxHeartbeats 3200000 in
theorem IsTruth06 (T : Tab) (hs : ∀ l ∈ T, l.length ≤ 2000) (hn : T.length ≤ 1000) (t : List Int) (p : Option Addr) (c : Nat) (q : Option Addr) (d : Nat) (w : World) (hv : ListsAt w p T) (hq : IntsAt w q t) :
    Calls Tryz.prog 28 #[.slice p T.length c, .slice q t.length d] w (RetE (.bool (isTruB T t)) w) := by
  have HV := Lib.hid (fun k (hk : k < T.length) => hv.row hk)
  have HQ := Lib.hid (fun k (hk : k < t.length) => hq.at k hk)
  clear hv hq
  go_enter Tryz.func28, Tryz.ntmps28
  by_cases hlen : t.length = T.length
  case neg =>
    have hb : isTruB T t = false := by unfold isTruB; rw [decide_eq_false hlen]; rfl
    have HB := Lib.hid hb
    have hne : ((t.length : Int) != (T.length : Int)) = true := by simp; omega
    clear hb hlen
    go_wp2
    go_ret
    exact RetE.fin (Ext.refl _) (by rw [HB.out]; rfl)
  have hne : ((t.length : Int) != (T.length : Int)) = false := by simp; omega
  have HLN := Lib.hid hlen
  clear hlen
  go_wp2
  clear hne
  go_loopw [5] (fun a wr => ∃ k : Nat, k ≤ T.length ∧ a = .int .i64 k ∧ (∀ j, j < k → inL (rowT T j) (vT t j) = true) ∧ Ext w wr) (fun a _ => T.length - (intOf a).toNat)
  case atStart => exact ⟨0, Nat.zero_le _, rfl, fun j hj => absurd hj (by omega), Ext.refl _⟩
  case round =>
    obtain ⟨k, hk, rfl, ha, hE⟩ := hrel
    have HE := Lib.hid hE
    have HA := Lib.hid ha
    clear hE ha
    by_cases hlt : k < T.length
    · have hlt' : (k : Int) < (T.length : Int) := by omega
      have hlt2 : (k : Int) < (t.length : Int) := by have := HLN.out; omega
      obtain ⟨pb, po, rq, rc, rfl, h0, h1⟩ := HV.out k hlt
      obtain ⟨qb, qo, rfl, h2⟩ := HQ.out k (by have := HLN.out; omega)
      have c0 := fun z : ExtW wr => z.h.cell (HE.out.cell h0)
      have c1 := fun z : ExtW wr => z.h.cell (HE.out.cell h2)
      have HIN := Lib.hid (fun z : ExtW wr => ExtW.call (in06 rq (rowT T k) rc t[k] z.w (by have := hs _ (List.getElem_mem hlt); rw [rowT_get hlt]; omega) (h1.ext (HE.out.trans z.h))))
      obtain ⟨b, hb⟩ : ∃ b, b = inL (rowT T k) t[k] := ⟨_, rfl⟩
      rw [← hb] at HIN
      rw [← vT_get] at hb
      have HB := Lib.hid hb
      clear hb h0 h1 h2
      go_upto_region 6 with (fail)
      obtain ⟨z0, hz0⟩ := ExtW.of (Ext.refl wr)
      conv => arg 5; rw [hz0]
      clear hz0
      refine wp_region_extW (by kernel_rfl) (by kernel_rfl) ?_
      repeat (go_big_quiet_step ((go_at_call 72; exact HIN.out _)))
      refine wpQuiet_nil ?_
      rintro _ ⟨x2, rfl⟩
      have HE2 := Lib.hid x2.h
      clear c0 c1 HIN
      cases b with
      | false =>
        have HF := Lib.hid (show isTruB T t = false from by
          rw [Bool.eq_false_iff]
          intro h
          have h2 := (isTruB_iff.1 h).2 k hlt
          rw [← inL_iff, ← HB.out] at h2
          cases h2)
        go_wp2
        go_ret
        exact RetE.fin (HE.out.trans HE2.out) (by rw [HF.out]; rfl)
      | true =>
        have HN := Lib.hid (show ∀ j, j < k + 1 → inL (rowT T j) (vT t j) = true from fun j hj => by
          by_cases e : j = k
          · subst e; exact HB.out.symm
          · exact HA.out j (by omega))
        go_wp2
        go_roundw
        case rel => exact ⟨k + 1, by omega, by simp, HN.out, HE.out.trans HE2.out⟩
        case measure => simp [intOf]; omega
    · obtain rfl : k = T.length := by omega
      have hge : ¬((T.length : Nat) : Int) < ((T.length : Nat) : Int) := by omega
      have HF := Lib.hid (show isTruB T t = true from isTruB_iff.2 ⟨HLN.out, fun i hi => (inL_iff _ _).1 (HA.out i hi)⟩)
      go_wp2
      go_ret
      exact RetE.fin HE.out (by rw [HF.out]; rfl)
end Go.Proofs.YtaoamnhchidjfaaGreatDoor
