/- The walk of the reference's Worth. -/
import Derived.Test.YtkcilgjkdiopnaaR3p
namespace Go.Proofs.Ytkcilgjkdiopnaa
open Go.RowKit

theorem refL_nil {X : Wr} (hX : ValidW X) : refL X = [] ↔ bestW X = none := by
  rw [refL_eq hX, List.map_eq_nil_iff]
  unfold bestW
  rw [leastL_none]
theorem worth_nil {X : Wr} (hX : ValidW X) (h : refL X = []) : worthV X = .tuple #[.int .i64 0, .int .i64 3] := by
  unfold worthV
  rw [(refL_nil hX).1 h]
theorem worth_free {X : Wr} (h : paysB X (choicesW X X.weeks.toNat) 0 = false) : worthV X = .tuple #[.int .i64 0, .int .i64 3] := by
  unfold worthV
  cases bestW X with
  | none => rfl
  | some c =>
    cases hw : worthTo X (choicesW X X.weeks.toNat) 1000 with
    | none => rfl
    | some n =>
      have := pays_zero (by omega) (worthTo_some hw).2.1
      rw [h] at this
      cases this
theorem worth_is {X : Wr} (hX : ValidW X) (h : refL X ≠ []) {n : Nat} (hw : worthTo X (choicesW X X.weeks.toNat) 1000 = some n) : worthV X = .tuple #[.int .i64 n, .int .i64 0] := by
  cases hb : bestW X with
  | none => exact absurd ((refL_nil hX).2 hb) h
  | some c => unfold worthV; rw [hb]; simp only; rw [hw]

set_option maxRecDepth 20000 in
set_option maxHeartbeats 16000000 in
theorem WorthR03 (v u : Value) (X : Wr) (w : World) (hv : WrV w v X) (hM : ModestW X) (hu : (ValidW X ∧ u = worthV X) ∨ (¬ValidW X ∧ u = .tuple #[.int .i64 0, .int .i64 30])) :
    Calls Try.prog 29 #[v] w (RetE u w) := by
  have HM := Lib.hid hM
  have HU := Lib.hid hu
  have HV := Lib.hid hv
  obtain ⟨p, cp, q, d, rfl, hR, hG⟩ := hv
  clear hM hR hG hu
  go_enter Try.func29, Try.ntmps29
  go_upto_region 1 with (fail)
  generalize hW : World.alloc _ _ = W
  have hb0 : W.heap[w.heap.size]? = some (.cells #[.int .i64 X.weeks, .int .i64 X.price, .int .i64 X.age, .int .i64 X.step, .slice p X.rough.length cp, .slice q X.recs.length d] 25) := by rw [← hW]; exact heap_new _ _
  have hE : Ext w W := by rw [← hW]; exact Ext.alloc (Ext.refl w) _
  have d0 : W.cell? ⟨w.heap.size, 0, none⟩ = some (.int .i64 X.weeks) := (cell_of_heap hb0 0).trans rfl
  have d1 : W.cell? ⟨w.heap.size, 1, none⟩ = some (.int .i64 X.price) := (cell_of_heap hb0 1).trans rfl
  have d2 : W.cell? ⟨w.heap.size, 2, none⟩ = some (.int .i64 X.age) := (cell_of_heap hb0 2).trans rfl
  have d3 : W.cell? ⟨w.heap.size, 3, none⟩ = some (.int .i64 X.step) := (cell_of_heap hb0 3).trans rfl
  have d4 : W.cell? ⟨w.heap.size, 4, none⟩ = some (.slice p X.rough.length cp) := (cell_of_heap hb0 4).trans rfl
  have d5 : W.cell? ⟨w.heap.size, 5, none⟩ = some (.slice q X.recs.length d) := (cell_of_heap hb0 5).trans rfl
  have HK := Lib.hid (knownR03 _ X W (WrV.mono _ _ _ _ hE HV.out) HM.out)
  have HE := Lib.hid hE
  clear hW hb0 hE
  go_upto_region 2 with (go_at_call 68; refine HK.out.mono ?_; rintro e W1 ⟨hE1, ⟨hX, rfl⟩ | ⟨hX, h0, rfl⟩ | ⟨hX, h0, p1, c1, rfl, hr1⟩⟩)
  · have HE1 := Lib.hid hE1
    have HX := Lib.hid hX
    clear hE1 hX
    go_wp2
    refine bodyPost_ret (v := .tuple #[.int .i64 0, .int .i64 30]) (by simp [results, Try.results29, go_sem]) rfl ⟨?_, HE.out.trans HE1.out⟩
    rcases HU.out with ⟨h, -⟩ | ⟨-, h⟩
    · exact absurd h HX.out
    · rw [h]
  · have HE1 := Lib.hid hE1
    have HX := Lib.hid hX
    have H0 := Lib.hid h0
    clear hE1 hX h0
    go_wp2
    refine bodyPost_ret (v := .tuple #[.int .i64 0, .int .i64 3]) (by simp [results, Try.results29, go_sem]) rfl ⟨?_, HE.out.trans HE1.out⟩
    rcases HU.out with ⟨-, h⟩ | ⟨h, -⟩
    · rw [h, worth_nil HX.out H0.out]
    · exact absurd HX.out h
  · have HP := Lib.hid (fun (p : Int) (hp : 0 ≤ p ∧ p ≤ 999) (x : ExtW W1) => ExtW.call (paysR03 X hX p1 c1 p x.w hp (hr1.ext x.h)))
    have hu2 : u = worthV X := by rcases HU.out with ⟨-, h⟩ | ⟨h, -⟩; exact h; exact absurd hX h
    have HX := Lib.hid hX
    have H0 := Lib.hid h0
    have HE1 := Lib.hid hE1
    have HU2 := Lib.hid hu2
    obtain ⟨x0, hx0⟩ := ExtW.of (Ext.refl W1)
    have hz := pays_eq hX (p := 0) ⟨by decide, by decide⟩
    obtain ⟨k, hk⟩ : ∃ k, k = (refL X).length := ⟨_, rfl⟩
    rw [← hk] at HP ⊢
    obtain ⟨CH, hCH⟩ : ∃ CH, CH = choicesW X X.weeks.toNat := ⟨_, rfl⟩
    have hPB := fun (p : Int) hp x => by have := HP.out p hp x; rw [pays_eq hX hp, ← hCH] at this; exact this
    have HPB := Lib.hid hPB
    have HCH := Lib.hid hCH
    clear hr1 hu2 hX h0 hE1 d0 d1 d2 d3 d4 d5 HK hz hk HP hPB hCH
    conv => arg 5; rw [hx0]
    clear hx0
    by_cases hp0 : paysB X CH 0 = true
    case neg =>
      have hp0' : paysB X CH 0 = false := by simpa using hp0
      have hA := fun x => HPB.out 0 ⟨by decide, by decide⟩ x
      rw [hp0'] at hA
      have HA := Lib.hid hA
      have HP0 := Lib.hid hp0'
      clear hA hp0 hp0'
      go_wp2_with (go_at_call 69; refine (HA.out _).mono ?_; rintro e w' ⟨rfl, x1, rfl⟩)
      refine bodyPost_ret (v := .tuple #[.int .i64 0, .int .i64 3]) (by simp [results, Try.results29, go_sem]) rfl ⟨?_, HE.out.trans (HE1.out.trans x1.h)⟩
      rw [HU2.out]
      exact congrArg Ending.returned (worth_free (by rw [← HCH.out]; exact HP0.out)).symm
    have hA := fun x => HPB.out 0 ⟨by decide, by decide⟩ x
    rw [hp0] at hA
    have HA := Lib.hid hA
    have HP0 := Lib.hid hp0
    clear hA hp0
    go_upto_region 6 with (go_at_call 69; refine (HA.out _).mono ?_; rintro e w' ⟨rfl, x1, rfl⟩)
    go_wp2
    go_loopw [6] (fun i wr => ∃ m : Nat, m ≤ 999 ∧ i = .int .i64 m ∧ worthTo X CH (m + 1) = worthTo X CH 1000 ∧ ∃ x : ExtW W1, wr = x.w) (fun i _ => (intOf i).toNat)
    case atStart => exact ⟨999, Nat.le_refl _, rfl, rfl, x1, rfl⟩
    case round =>
      clear x0 x1
      obtain ⟨m, hm, rfl, hw, x, rfl⟩ := hrel
      by_cases hpm : paysB X CH (m : Int) = true
      · have hA := fun x => HPB.out (m : Int) (by omega) x
        rw [hpm] at hA
        have HA := Lib.hid hA
        have hwn : worthTo X CH 1000 = some m := by rw [← hw, worthTo, if_pos hpm]
        have HWN := Lib.hid hwn
        clear hA hpm hw hwn
        go_wp2_with (go_at_call 69; refine (HA.out _).mono ?_; rintro e w' ⟨rfl, x1, rfl⟩)
        refine bodyPost_ret (v := .tuple #[.int .i64 m, .int .i64 0]) (by simp [results, Try.results29, go_sem]) rfl ⟨?_, HE.out.trans (HE1.out.trans x1.h)⟩
        rw [HU2.out]
        exact congrArg Ending.returned (worth_is HX.out H0.out (by rw [← HCH.out]; exact HWN.out)).symm
      · have hA := fun x => HPB.out (m : Int) (by omega) x
        rw [show paysB X CH (m : Int) = false from by simpa using hpm] at hA
        have HA := Lib.hid hA
        have hm0 : m ≠ 0 := fun e => by subst e; exact hpm HP0.out
        obtain ⟨m2, rfl⟩ : ∃ m2, m = m2 + 1 := ⟨m - 1, by omega⟩
        have hwn : worthTo X CH (m2 + 1) = worthTo X CH 1000 := by rw [← hw, worthTo.eq_def X CH (m2 + 1 + 1)]; simp only; rw [if_neg hpm]
        have HWN := Lib.hid hwn
        clear hA hpm hw hwn
        go_wp2_with (go_at_call 69; refine (HA.out _).mono ?_; rintro e w' ⟨rfl, x1, rfl⟩)
        go_roundw
        case rel => exact ⟨m2, by omega, by go_num, HWN.out, _, rfl⟩
        case measure => (try simp [intOf]) <;> (try omega)
end Go.Proofs.Ytkcilgjkdiopnaa
