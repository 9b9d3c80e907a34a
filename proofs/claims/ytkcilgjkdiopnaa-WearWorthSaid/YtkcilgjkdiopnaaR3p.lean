/- The walk of the reference's pays. -/
import Derived.Test.YtkcilgjkdiopnaaR3o
namespace Go.Proofs.Ytkcilgjkdiopnaa
open Go.RowKit

theorem withR_bd {p : Int} {l : List RC} (h : ∀ i (h : i < l.length), 0 ≤ payN p l[i] ∧ payN p l[i] ≤ 30000) : ∀ k, k ≤ l.length → (-1 ≤ withR p l k ∧ withR p l k ≤ 30000) ∧ (-1 ≤ withoutR p l k ∧ withoutR p l k ≤ 30000)
  | 0, _ => by simp [withR, withoutR]
  | k + 1, hk => by
    have h1 := withR_bd h k (by omega)
    have h2 := h k (by omega)
    simp only [withR, withoutR]
    rw [rcAt_eq (by omega : k < l.length)]
    repeat split
    all_goals omega

set_option maxRecDepth 20000 in
set_option maxHeartbeats 16000000 in
theorem paysR03 (X : Wr) (hX : ValidW X) (p : Option Addr) (c : Nat) (price : Int) (w : World) (hp : 0 ≤ price ∧ price ≤ 999) (h : RcsAt w p (refL X)) :
    Calls Try.prog 69 #[.slice p (refL X).length c, .int .i64 price] w (RetE (.bool (paysR price (refL X))) w) := by
  obtain ⟨hl64, hbd⟩ := refL_bd hX
  have hpb : ∀ i (h : i < (refL X).length), 0 ≤ payN price (refL X)[i] ∧ payN price (refL X)[i] ≤ 30000 := fun i hi => by
    have h1 := hbd i hi
    have h2 := payN_pos hX hp _ (List.getElem_mem hi)
    have h3 := mulp_bd (a := (refL X)[i].needles) (p := price) (by omega) hp
    refine ⟨h2, ?_⟩
    unfold payN
    omega
  have r0 := fun i (hi : i < (refL X).length) => (show ∃ (b o : Nat) (ni ci mp : Int), p = some ⟨b, o, none⟩ ∧ (∀ x : ExtW w, x.w.cell? ⟨b, o + i * 3, none⟩ = some (.int .i64 ni)) ∧ (∀ x : ExtW w, x.w.cell? ⟨b, o + i * 3 + 1, none⟩ = some (.int .i64 ci)) ∧ IntKind.i64.wrap (ni * price) = mp ∧ (-1000 ≤ mp ∧ mp ≤ 6000) ∧ (-4000 ≤ ci ∧ ci ≤ 24000) ∧ payN price (rcAt (refL X) i) = ci + mp ∧ (0 ≤ ni ∧ ni ≤ 6) ∧ (rcAt (refL X) i).needles = ni from by
    obtain ⟨b', o', he, ra', rb', rc'⟩ := h i hi
    have h1 := hbd i hi
    have h3 := mulp_bd (a := (refL X)[i].needles) (p := price) (by omega) hp
    rw [rcAt_eq hi]
    exact ⟨b', o', _, _, _, he, ExtW.cell ra', ExtW.cell rb', IntWalk.i64_in _ (by omega), by omega, h1.2.1, rfl, h1.1, rfl⟩)
  have HWB := Lib.hid (withR_bd hpb)
  have HR := Lib.hid r0
  obtain ⟨L, hL⟩ : ∃ L, L = refL X := ⟨_, rfl⟩
  rw [← hL] at hl64 HWB HR ⊢
  obtain ⟨k, hk⟩ : ∃ k, k = L.length := ⟨_, rfl⟩
  have HKL := Lib.hid hk
  rw [← hk] at hl64 ⊢
  clear hbd hpb r0 h hL hk
  go_enter Try.func69, Try.ntmps69
  obtain ⟨x0, hx0⟩ := ExtW.of (Ext.refl w)
  conv => arg 5; rw [hx0]
  clear hx0
  go_wp2
  go_loopw [5, 6, 7] (fun a b i wr => ∃ m : Nat, m ≤ k ∧ i = .int .i64 m ∧ a = .int .i64 (withR price L m) ∧ b = .int .i64 (withoutR price L m) ∧ ∃ x : ExtW w, wr = x.w) (fun _ _ i _ => k - (intOf i).toNat)
  case atStart => exact ⟨0, Nat.zero_le _, rfl, rfl, rfl, x0, rfl⟩
  case round =>
    clear x0
    obtain ⟨m, hm, rfl, rfl, rfl, x, rfl⟩ := hrel
    obtain ⟨wi, hwi⟩ : ∃ wi, wi = withR price L m := ⟨_, rfl⟩
    obtain ⟨wo, hwo⟩ : ∃ wo, wo = withoutR price L m := ⟨_, rfl⟩
    have hwb := HWB.out m (by have := HKL.out; omega)
    rw [← hwi, ← hwo] at hwb
    conv => arg 4; rw [← hwi, ← hwo]
    by_cases hlt : m < k
    · have hltI : (m : Int) < (k : Int) := by omega
      obtain ⟨b, o, ni, ci, mp, rfl, y2, y3, hmw, hmb1, hcb1, hpv, hnb, hnv⟩ := HR.out m (by have := HKL.out; omega)
      have hs : withR price L (m + 1) = if ni = 0 then wi else if wi < 0 ∨ ci + mp < wi then ci + mp else wi := by rw [hwi, ← hpv, ← hnv]; rfl
      have ht : withoutR price L (m + 1) = if ni = 0 then ci + mp else wo := by rw [hwo, ← hpv, ← hnv]; rfl
      obtain ⟨vm, hvm⟩ : ∃ vm, vm = ci + mp := ⟨_, rfl⟩
      have hwv : IntKind.i64.wrap (ci + mp) = vm := by rw [hvm]; exact IntWalk.i64_in _ (by omega)
      rw [← hvm] at hs ht
      have HS := Lib.hid hs
      have HT := Lib.hid ht
      clear hs ht hwi hwo hpv hnv hvm
      go_upto_region 6 with (fail)
      refine wp_region_extW (by kernel_rfl) (by kernel_rfl) ?_
      repeat (go_big_quiet_step (fail))
      refine wpQuiet_nil ?_
      rintro _ ⟨x3, rfl⟩
      clear hmw
      by_cases hn0 : ni = 0
      · subst hn0
        go_wp2
        go_roundw
        case rel => exact ⟨m + 1, by omega, by go_num, by rw [HS.out, if_pos rfl], by rw [HT.out, if_pos rfl], _, rfl⟩
        case measure => simp [intOf]; omega
      · by_cases hw0 : wi < 0
        · go_wp2
          go_roundw
          case rel => exact ⟨m + 1, by omega, by go_num, by rw [HS.out, if_neg hn0, if_pos (Or.inl hw0)], by rw [HT.out, if_neg hn0], _, rfl⟩
          case measure => simp [intOf]; omega
        · by_cases hv0 : vm < wi
          · go_wp2
            go_roundw
            case rel => exact ⟨m + 1, by omega, by go_num, by rw [HS.out, if_neg hn0, if_pos (Or.inr hv0)], by rw [HT.out, if_neg hn0], _, rfl⟩
            case measure => simp [intOf]; omega
          · go_wp2
            go_roundw
            case rel => exact ⟨m + 1, by omega, by go_num, by rw [HS.out, if_neg hn0, if_neg (fun h => by omega)], by rw [HT.out, if_neg hn0], _, rfl⟩
            case measure => simp [intOf]; omega
    · obtain rfl : m = k := by omega
      have HWI := Lib.hid hwi
      have HWO := Lib.hid hwo
      clear hwi hwo
      by_cases g1 : 0 ≤ wi
      · by_cases g2 : wo < 0
        · go_wp2
          go_ret
          exact RetE.fin x.h (by unfold paysR; rw [← HKL.out, ← HWI.out, ← HWO.out]; simp [g1, g2])
        · by_cases g3 : wi ≤ wo
          · go_wp2
            go_ret
            exact RetE.fin x.h (by unfold paysR; rw [← HKL.out, ← HWI.out, ← HWO.out]; simp [g1, g3])
          · go_wp2
            go_ret
            exact RetE.fin x.h (by unfold paysR; rw [← HKL.out, ← HWI.out, ← HWO.out]; simp; omega)
      · go_wp2
        go_ret
        exact RetE.fin x.h (by unfold paysR; rw [← HKL.out, ← HWI.out, ← HWO.out]; simp; omega)
end Go.Proofs.Ytkcilgjkdiopnaa
