/- The walks of slices.Collect, ContainsFunc over the choices, and Worth of a valid box. -/
import Derived.Test.YtkcilgjkdiopnaaW3r
import Derived.Test.YtkcilgjkdiopnaaW3p
namespace Go.Proofs.Ytkcilgjkdiopnaa
open Go.RowKit

set_option maxHeartbeats 800000 in
theorem Collect03 (X : Wr) (hX : ValidW X) (p q : Option Addr) (c d long b : Nat) (hl : (long : Int) ≤ X.weeks) (w wa : World) (hIt : CiAt X p q c d b long wa w) (hR : RecsAt wa q X.recs) (hG : IntsAt wa p X.rough) :
    Calls Try.prog 63 #[.func (.func 93) #[] #[.pointer (some ⟨b + 1, 0, none⟩), .pointer (some ⟨b, 0, none⟩)]] w fun e w' => ∃ u, e = .returned u ∧ ChsV w' u (choicesW X long) ∧ Ext w w' := by
  have HA := Lib.hid (AppendSeq03 X hX p q c d long b hl w wa hIt hR hG)
  clear hX hIt hR hG
  go_enter Try.func63, Try.ntmps63
  go_wp2_with (go_at_call 92; refine HA.out.mono ?_; rintro e w' ⟨u, rfl, hu, hE⟩)
  go_ret
  exact ⟨u, rfl, hu, hE⟩

set_option maxHeartbeats 800000 in
theorem IndexFuncCh (p : Option Addr) (l : List Ch) (c g : Nat) (cap : Array Value) (w : World) (q : Ch → Prop) (hl : l.length ≤ 100000) (h : ChsAt w p l) (ha : Asks ChV g #[] cap w l q) :
    Calls Try.prog 96 #[.slice p l.length c, .func (.func g) #[] cap] w (IdxPost (∃ x ∈ l, q x) w) := by
  obtain ⟨hcall, hf⟩ := ha
  have HF := Lib.hid hf
  clear hf
  go_enter Try.func96, Try.ntmps96
  go_wp2
  go_loopw [8] (fun i wr => ∃ k : Nat, k ≤ l.length ∧ i = .int .i64 k ∧ (∀ x ∈ l.take k, ¬q x) ∧ Ext w wr) (fun i _ => l.length - (intOf i).toNat)
  case atStart => exact ⟨0, by omega, rfl, by simp, Ext.refl _⟩
  case round =>
    obtain ⟨k, hk, rfl, hr, hE⟩ := hrel
    have HR := Lib.hid hr
    clear hr
    by_cases hlt : k < l.length
    · obtain ⟨b, o, q', c', rfl, hc, hd, hq'⟩ := (h.ext hE) k hlt
      have hC := HF.out wr (.agg #[.int .u64 l[k].needles, .slice q' (l[k]).records.length c']) l[k] hE (List.getElem_mem hlt) ⟨q', c', rfl, hq'⟩
      simp only [List.append_toArray, List.nil_append] at hC
      by_cases hq : q l[k]
      · have HC := Lib.hid (RetE.bt hq hC)
        have HQ := Lib.hid hq
        clear hC hq
        go_wp2_with fail
        refine HC.out.mono ?_
        rintro e W2 ⟨rfl, hE2⟩
        go_wp2
        go_ret
        exact ⟨k, rfl, ⟨fun _ => ⟨_, List.getElem_mem hlt, HQ.out⟩, fun _ => by omega⟩, hE.trans hE2⟩
      · have HC := Lib.hid (RetE.bf hq hC)
        have HQ := Lib.hid hq
        clear hC hq
        go_wp2_with fail
        refine HC.out.mono ?_
        rintro e W2 ⟨rfl, hE2⟩
        go_wp2
        go_roundw
        case rel => exact ⟨k + 1, by omega, by go_num, by
          rw [List.take_succ_eq_append_getElem hlt]
          intro x hx
          rcases List.mem_append.1 hx with h1 | h1
          · exact HR.out x h1
          · rw [List.mem_singleton.1 h1]; exact HQ.out, hE.trans hE2⟩
        case measure => simp [intOf]; omega
    · go_wp2
      go_ret
      exact ⟨-1, rfl, ⟨fun h => absurd h (by decide), fun ⟨x, hx, hqx⟩ => absurd hqx (HR.out x (by rwa [List.take_of_length_le (by omega)]))⟩, hE⟩

set_option maxHeartbeats 400000 in
theorem ContainsFuncCh (p : Option Addr) (l : List Ch) (c g : Nat) (cap : Array Value) (w : World) (q : Ch → Prop) (hl : l.length ≤ 100000) (h : ChsAt w p l) (ha : Asks ChV g #[] cap w l q) :
    Calls Try.prog 66 #[.slice p l.length c, .func (.func g) #[] cap] w (RetE (.bool (bP (∃ x ∈ l, q x))) w) := by
  have HC := Lib.hid (IndexFuncCh p l c g cap w q hl h ha)
  clear ha
  go_enter Try.func66, Try.ntmps66
  go_wp2_with fail
  refine HC.out.mono ?_
  rintro e W2 ⟨n, rfl, hn, hE2⟩
  have HN := Lib.hid hn
  clear hn
  go_wp2
  go_ret
  exact RetE.of hE2 (by rw [← HN.out]; simp)

set_option maxRecDepth 20000 in
set_option maxHeartbeats 1600000 in
theorem worthFn03 (X : Wr) (hX : ValidW X) (p q : Option Addr) (cp d B PB LB : Nat) (price least : Int) (hp : 0 ≤ price ∧ price ≤ 999) (u : Value) (c : Ch) (w : World) (hu : ChV w u c) (hc : ChOK X c) (hR : RecsAt w q X.recs) (hG : IntsAt w p X.rough)
    (hB : w.heap[B]? = some (bxO X p cp q d)) (hP : w.cell? ⟨PB, 0, none⟩ = some (.int .i64 price)) (hL : w.cell? ⟨LB, 0, none⟩ = some (.int .i64 least)) :
    Calls Try.prog 67 #[u, .pointer (some ⟨B, 0, none⟩), .pointer (some ⟨PB, 0, none⟩), .pointer (some ⟨LB, 0, none⟩)] w (RetE (.bool (bP (c.needles ≠ 0 ∧ allW X c price = least))) w) := by
  have hml := hc.needles
  have hal := fun w' (h : Ext w w') => all03 (.agg #[.int .i64 X.weeks, .int .i64 X.price, .int .i64 X.age, .int .i64 X.step, .slice p X.rough.length cp, .slice q X.recs.length d]) u X c price w' ⟨_, _, _, _, rfl, hG.ext h, hR.ext h⟩ hX (ChV.mono _ _ _ _ h hu) hc hp
  obtain ⟨s, cs, rfl, hma⟩ := hu
  have HAL := Lib.hid hal
  unfold bxO at hB
  clear hal hX hR hG hma
  go_enter Try.func67, Try.ntmps67
  go_upto_region 1 with (fail)
  have hn := heap_new w (.cells #[.int .u64 c.needles, .slice s c.records.length cs] 105)
  obtain ⟨W, hW⟩ : ∃ W, W = w.alloc (.cells #[.int .u64 c.needles, .slice s c.records.length cs] 105) := ⟨_, rfl⟩
  have hE : Ext w W := by rw [hW]; exact Ext.alloc (Ext.refl w) _
  rw [← hW] at hn ⊢
  have hBw := (Below.block hE B (Array.getElem?_eq_some_iff.1 hB).1).trans hB
  have c0 := ExtW.cell (v := .int .u64 c.needles) (cell_of_heap hn 0)
  have c1 := ExtW.cell (v := .slice s c.records.length cs) (cell_of_heap hn 1)
  have d0 := ExtW.cell (v := .int .i64 X.weeks) (cell_of_heap hBw 0)
  have d1 := ExtW.cell (v := .int .i64 X.price) (cell_of_heap hBw 1)
  have d2 := ExtW.cell (v := .int .i64 X.age) (cell_of_heap hBw 2)
  have d3 := ExtW.cell (v := .int .i64 X.step) (cell_of_heap hBw 3)
  have d4 := ExtW.cell (v := .slice p X.rough.length cp) (cell_of_heap hBw 4)
  have d5 := ExtW.cell (v := .slice q X.recs.length d) (cell_of_heap hBw 5)
  have e0 := ExtW.cell (hE.cell hP)
  have e1 := ExtW.cell (hE.cell hL)
  have HA := Lib.hid (fun y : ExtW W => ExtW.call (HAL.out y.w (hE.trans y.h)))
  have HE := Lib.hid hE
  obtain ⟨aw, haw⟩ : ∃ aw, aw = allW X c price := ⟨_, rfl⟩
  rw [← haw] at HA
  have HAW := Lib.hid haw
  obtain ⟨nn, hnn⟩ : ∃ nn, nn = c.needles := ⟨_, rfl⟩
  rw [← hnn] at c0 hml HA
  have HNN := Lib.hid hnn
  obtain ⟨x0, hx0⟩ := ExtW.of (Ext.refl W)
  clear hW hn hE hBw hB hP hL HAL haw hnn
  conv => arg 5; rw [hx0]
  clear hx0
  by_cases h0 : nn = 0
  · have h0' : ((nn : Int) != 0) = false := by simp [h0]
    have H0 := Lib.hid h0
    clear h0
    refine wp_region_extW (by kernel_rfl) (by kernel_rfl) ?_
    repeat (go_big_quiet_step (fail))
    refine wpQuiet_nil ?_
    rintro _ ⟨x1, rfl⟩
    go_wp2
    go_ret
    exact RetE.ff (HE.out.trans x1.h) (fun h => h.1 (HNN.out.symm.trans H0.out))
  · have h0' : ((nn : Int) != 0) = true := by simp; omega
    have H0 := Lib.hid h0
    clear h0
    refine wp_region_extW (by kernel_rfl) (by kernel_rfl) ?_
    repeat (go_big_quiet_step ((go_at_call 65; exact HA.out _)))
    refine wpQuiet_nil ?_
    rintro _ ⟨x1, rfl⟩
    go_wp2
    go_ret
    refine RetE.of (HE.out.trans x1.h) ?_
    rw [← HAW.out]
    simp only [beq_iff_eq]
    exact ⟨fun h => ⟨fun e => H0.out (HNN.out.trans e), h⟩, fun h => h.2⟩
end Go.Proofs.Ytkcilgjkdiopnaa
