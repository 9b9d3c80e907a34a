/- The walk of the reference's Cheapest. -/
import Derived.Test.YtkcilgjkdiopnaaR3l
namespace Go.Proofs.Ytkcilgjkdiopnaa
open Go.RowKit

def priced (X : Wr) (c : RC) : Int := c.cost + c.needles * X.price

set_option maxRecDepth 20000 in
set_option maxHeartbeats 16000000 in
theorem CheapestR03 (v : Value) (X : Wr) (w : World) (hv : WrV w v X) (hM : ModestW X) :
    Calls Try.prog 44 #[v] w (RetE (refV X (priced X)) w) := by
  have HM := Lib.hid hM
  have HV := Lib.hid hv
  obtain ⟨p, cp, q, d, rfl, hR, hG⟩ := hv
  clear hM hR hG
  go_enter Try.func44, Try.ntmps44
  go_upto_region 1 with (fail)
  generalize hW : World.alloc _ _ = W
  have hb0 : W.heap[w.heap.size]? = some (.cells #[.int .i64 X.weeks, .int .i64 X.price, .int .i64 X.age, .int .i64 X.step, .slice p X.rough.length cp, .slice q X.recs.length d] 25) := by rw [← hW]; exact heap_new _ _
  have hE : Ext w W := by rw [← hW]; exact Ext.alloc (Ext.refl w) _
  have d0 : W.cell? ⟨w.heap.size, 0, none⟩ = some (.int .i64 X.weeks) := (cell_of_heap hb0 0).trans rfl
  have d1 : W.cell? ⟨w.heap.size, 1, none⟩ = some (.int .i64 X.price) := (cell_of_heap hb0 1).trans rfl
  have d2 : W.cell? ⟨w.heap.size, 2, none⟩ = some (.int .i64 X.age) := (cell_of_heap hb0 2).trans rfl
  have d3 : W.cell? ⟨w.heap.size, 3, none⟩ = some (.int .i64 X.step) := (cell_of_heap hb0 3).trans rfl
  have d4 : W.cell? ⟨w.heap.size, 4, none⟩ = some (.slice p X.rough.length cp) := (cell_of_heap hb0 4).trans rfl
  have d5 : W.cell? ⟨w.heap.size, 5, none⟩ = some (.slice q X.recs.length d) := (cell_of_heap hb0 5).trans rfl
  have HK := Lib.hid (knownR03 _ X W (WrV.mono _ _ _ _ hE HV.out) HM.out)
  have HE := Lib.hid hE
  clear hW hb0 hE
  go_upto_region 2 with (go_at_call 68; refine HK.out.mono ?_; rintro e W1 ⟨hE1, ⟨hX, rfl⟩ | ⟨hX, h0, rfl⟩ | ⟨hX, h0, p1, c1, rfl, hr1⟩⟩)
  · have HE1 := Lib.hid hE1
    have HX := Lib.hid hX
    clear hE1 hX
    go_wp2
    refine bodyPost_ret (v := .tuple #[.int .i64 0, .int .i64 30]) (by simp [results, Try.results44, go_sem]) rfl ⟨by rw [refV_bad HX.out], HE.out.trans HE1.out⟩
  · have HE1 := Lib.hid hE1
    have HX := Lib.hid hX
    have H0 := Lib.hid h0
    clear hE1 hX h0
    go_wp2
    refine bodyPost_ret (v := .tuple #[.int .i64 0, .int .i64 3]) (by simp [results, Try.results44, go_sem]) rfl ⟨by rw [refV_nil HX.out H0.out], HE.out.trans HE1.out⟩
  · have hpos := List.length_pos_iff.2 h0
    obtain ⟨hl64, hbd⟩ := refL_bd hX
    obtain ⟨b, o, rfl, ra, rb, rc⟩ := hr1 0 hpos
    have hmb := fun k hk => lowR_bd (f := priced X) h0 (a := -5000) (b := 30000) (fun i hi => by have h1 := hbd i hi; have h2 := hX.price; have h3 := mulp_bd (a := (refL X)[i].needles) (p := X.price) (by omega) h2; unfold priced; omega) k hk
    have hd1 := hE1.cell d1
    have z1 := ExtW.cell hd1
    have hpr := hX.price
    have r0 := fun i (hi : i < (refL X).length) => (show ∃ ni ci mp : Int, (∀ x : ExtW W1, x.w.cell? ⟨b, o + i * 3, none⟩ = some (.int .i64 ni)) ∧ (∀ x : ExtW W1, x.w.cell? ⟨b, o + i * 3 + 1, none⟩ = some (.int .i64 ci)) ∧ IntKind.i64.wrap (ni * X.price) = mp ∧ (-1000 ≤ mp ∧ mp ≤ 6000) ∧ (-4000 ≤ ci ∧ ci ≤ 24000) ∧ priced X (rcAt (refL X) i) = ci + mp from by
      obtain ⟨b', o', he, ra', rb', rc'⟩ := hr1 i hi
      cases he
      have h1 := hbd i hi
      have h3 := mulp_bd (a := (refL X)[i].needles) (p := X.price) (by omega) hpr
      rw [rcAt_eq hi]
      exact ⟨_, _, _, ExtW.cell ra', ExtW.cell rb', IntWalk.i64_in _ (by omega), by omega, h1.2.1, rfl⟩)
    obtain ⟨n0, k0, m0, z2, z3, hmw, hmb0, hkb0, hz⟩ := r0 0 hpos
    rw [Nat.zero_mul, Nat.add_zero] at z2 z3
    have hm0 : lowR (priced X) (refL X) 0 = k0 + m0 := hz
    obtain ⟨pr, hpre⟩ : ∃ pr, pr = X.price := ⟨_, rfl⟩
    rw [← hpre] at z1 hmw
    have HPR := Lib.hid hpre
    obtain ⟨k, hk⟩ : ∃ k, k = (refL X).length := ⟨_, rfl⟩
    have hkI : (0 : Int) < (k : Int) := by omega
    rw [← hk] at hl64 ⊢
    have HR := Lib.hid r0
    have HMB := Lib.hid hmb
    have HM0 := Lib.hid hm0
    have HKL := Lib.hid hk
    have HE1 := Lib.hid hE1
    have HX := Lib.hid hX
    have H0 := Lib.hid h0
    obtain ⟨x0, hx0⟩ := ExtW.of (Ext.refl W1)
    clear hr1 hbd ra rb rc r0 hmb hm0 hk hpr hpre hz hE1 hX h0 hpos d0 d1 d2 d3 d4 d5 hd1 HK
    conv => arg 5; rw [hx0]
    clear hx0
    go_upto_region 4 with (fail)
    refine wp_region_extW (by kernel_rfl) (by kernel_rfl) ?_
    repeat (go_big_quiet_step (fail))
    refine wpQuiet_nil ?_
    rintro _ ⟨x2, rfl⟩
    clear hmw z2 z3
    go_wp2
    go_loopw [6, 7] (fun a i wr => ∃ m : Nat, m ≤ k ∧ i = .int .i64 m ∧ a = .int .i64 (lowR (priced X) (refL X) m) ∧ ∃ x : ExtW W1, wr = x.w) (fun _ i _ => k - (intOf i).toNat)
    case atStart => exact ⟨0, Nat.zero_le _, rfl, by rw [HM0.out], x2, rfl⟩
    case round =>
      clear x0 x2
      obtain ⟨m, hm, rfl, rfl, x, rfl⟩ := hrel
      obtain ⟨mt, hmt⟩ : ∃ mt, mt = lowR (priced X) (refL X) m := ⟨_, rfl⟩
      have hmtb := HMB.out m (by have := HKL.out; omega)
      rw [← hmt] at hmtb
      conv => arg 4; rw [← hmt]
      by_cases hlt : m < k
      · have hltI : (m : Int) < (k : Int) := by omega
        obtain ⟨ni, ci, mp, y2, y3, hmw, hmb1, hcb1, hpv⟩ := HR.out m (by have := HKL.out; omega)
        rw [← HPR.out] at hmw
        have hs : lowR (priced X) (refL X) (m + 1) = min mt (ci + mp) := by rw [hmt, ← hpv]; rfl
        obtain ⟨vm, hvm⟩ : ∃ vm, vm = ci + mp := ⟨_, rfl⟩
        rw [← hvm] at hs
        have HS := Lib.hid hs
        have HVM := Lib.hid hvm
        clear hs hmt hpv
        have hwv : IntKind.i64.wrap (ci + mp) = vm := by rw [hvm]; exact IntWalk.i64_in _ (by omega)
        clear hvm
        by_cases hle : mt ≤ vm
        · go_upto_region 8 with (fail)
          refine wp_region_extW (by kernel_rfl) (by kernel_rfl) ?_
          repeat (go_big_quiet_step (fail))
          refine wpQuiet_nil ?_
          rintro _ ⟨x3, rfl⟩
          clear hmw
          go_wp2
          go_roundw
          case rel => exact ⟨m + 1, by omega, by go_num, by rw [HS.out]; (try congr 1); (try split) <;> omega, _, rfl⟩
          case measure => simp [intOf]; omega
        · go_upto_region 8 with (fail)
          refine wp_region_extW (by kernel_rfl) (by kernel_rfl) ?_
          repeat (go_big_quiet_step (fail))
          refine wpQuiet_nil ?_
          rintro _ ⟨x3, rfl⟩
          clear hmw
          go_wp2
          go_roundw
          case rel => exact ⟨m + 1, by omega, by go_num, by rw [HS.out]; (try congr 1); (try split) <;> omega, _, rfl⟩
          case measure => simp [intOf]; omega
      · obtain rfl : m = k := by omega
        have HMT := Lib.hid hmt
        clear hmt
        go_wp2
        refine bodyPost_ret (v := .tuple #[.int .i64 mt, .int .i64 0]) (by simp [results, Try.results44, go_sem]) rfl ⟨by rw [refV_some HX.out H0.out, ← HKL.out, HMT.out], HE.out.trans (HE1.out.trans x.h)⟩

end Go.Proofs.Ytkcilgjkdiopnaa
