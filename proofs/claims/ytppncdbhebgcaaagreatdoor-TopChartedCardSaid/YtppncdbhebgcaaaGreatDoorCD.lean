
/- Charts: the reference's Check, IsTitle, IsRank. Charts: the reference's numbers. Charts: the walk of Far. Charts: ready, isKnown, subset. -/
import Derived.Test.YtppncdbhebgcaaaGreatDoorCB
import Derived.Test.YtppncdbhebgcaaaGreatDoorQ9c
namespace Go.Proofs.YtppncdbhebgcaaaGreatDoor
open Go.RowKit

structure EqS2' (n m : Int) : Prop where
  out : n = m
theorem within06 (n lo hi : Int) (w : World) :
    Calls Tryz.prog 28 #[.int .i64 n, .int .i64 lo, .int .i64 hi] w (RetE (.bool (winB n lo hi)) w) := by
  have HW := Lib.hid (Within02 n lo hi w)
  go_enter Tryz.func28, Tryz.ntmps28
  go_wp2_with (go_at_call 43; refine HW.out.mono ?_; rintro e w1 ⟨rfl, hE1⟩; have HE1 := Lib.hid hE1; clear hE1)
  go_ret
  exact RetE.fin HE1.out rfl
theorem win_false {n lo hi : Int} (h : ¬(lo ≤ n ∧ n ≤ hi)) : winB n lo hi = false := Bool.eq_false_iff.2 fun e => h (by simpa [winB] using e)
theorem win_true {n lo hi : Int} (h : lo ≤ n ∧ n ≤ hi) : winB n lo hi = true := by simp [winB, h.1, h.2]

set_option maxRecDepth 20000 in
set_option maxHeartbeats 3200000 in
theorem rCheck06 (C : Ch) (v : Value) (w : World) (hv : ChV w v C) (hs : ChSm C) :
    Calls Tryz.prog 6 #[v] w (RetE (.int .i64 (chkC C)) w) := by
  have HV := Lib.hid hv
  obtain ⟨p, c, q, d, rfl, hp, hq⟩ := hv
  go_enter Tryz.func6, Tryz.ntmps6
  go_upto_region 1 with (fail)
  obtain ⟨s0, hs0⟩ : ∃ s0, s0 = w.heap.size := ⟨_, rfl⟩
  obtain ⟨W, hW⟩ : ∃ W, W = w.alloc (.cells #[.slice p C.meters.length c, .slice q C.extra.length d, .int .i64 C.frm, .int .i64 C.tto] 25) := ⟨_, rfl⟩
  have m0 : W.heap[s0]? = some (.cells #[.slice p C.meters.length c, .slice q C.extra.length d, .int .i64 C.frm, .int .i64 C.tto] 25) := by rw [hs0, hW]; exact heap_new _ _
  have hE : Ext w W := by rw [hW]; exact Ext.alloc (Ext.refl _) _
  rw [← hs0, ← hW]
  have q0 := ExtW.cell (v := .slice p C.meters.length c) (cell_of_heap m0 0)
  have q1 := ExtW.cell (v := .slice q C.extra.length d) (cell_of_heap m0 1)
  have q2 := ExtW.cell (v := .int .i64 C.frm) (cell_of_heap m0 2)
  have q3 := ExtW.cell (v := .int .i64 C.tto) (cell_of_heap m0 3)
  have HE := Lib.hid hE
  have HP := Lib.hid (hp.ext hE)
  have HQ := Lib.hid (hq.ext hE)
  have HSM := Lib.hid hs.mt
  have hn20 := hs.nm
  obtain ⟨x0, hx0⟩ := ExtW.of (Ext.refl W)
  clear hW m0 hE hs0 hp hq hs
  conv => arg 5; rw [hx0]
  clear hx0
  by_cases hA : C.meters.length ≤ 6
  case neg =>
    have HC := Lib.hid (chkC_f (C := C) fun h => hA h.nm)
    have hA' : 6 < (C.meters.length : Int) := by omega
    clear hA
    go_wp2
    go_ret
    exact RetE.fin (HE.out.trans x0.h) (by rw [HC.out]; rfl)
  have hA' : ¬6 < (C.meters.length : Int) := by omega
  by_cases hB : C.extra.length = C.meters.length
  case neg =>
    have HC := Lib.hid (chkC_f (C := C) fun h => hB h.nx)
    have hB' : ((C.extra.length : Int) == (C.meters.length : Int)) = false := by simp; omega
    have hB2 : (C.extra.length == C.meters.length) = false := by simp; omega
    go_wp2
    go_ret
    exact RetE.fin (HE.out.trans x0.h) (by rw [HC.out]; rfl)
  have HNX : EqS C.extra.length C.meters.length := ⟨hB⟩
  rw [hB] at q1 HV
  rw [hB]
  clear hB
  by_cases hC : 0 ≤ C.frm ∧ C.frm ≤ C.tto
  case neg =>
    have HC := Lib.hid (chkC_f (C := C) fun h => hC ⟨h.f0, h.ft⟩)
    have HWC := Lib.hid (fun x : ExtW W => ExtW.call (x := x) (by have h := within06 C.frm 0 C.tto x.w; rwa [win_false hC] at h : Calls Tryz.prog 28 #[.int .i64 C.frm, .int .i64 0, .int .i64 C.tto] x.w (RetE (.bool false) x.w)))
    clear hC
    go_wp2_with (go_at_call 28; refine (HWC.out _).mono ?_; rintro e w1 ⟨rfl, x1, rfl⟩)
    go_ret
    exact RetE.fin (HE.out.trans x1.h) (by rw [HC.out]; rfl)
  have HWC := Lib.hid (fun x : ExtW W => ExtW.call (x := x) (by have h := within06 C.frm 0 C.tto x.w; rwa [win_true hC] at h : Calls Tryz.prog 28 #[.int .i64 C.frm, .int .i64 0, .int .i64 C.tto] x.w (RetE (.bool true) x.w)))
  have HFT := Lib.hid hC
  by_cases hD : C.tto ≤ 5
  case neg =>
    have HC := Lib.hid (chkC_f (C := C) fun h => hD h.t5)
    have hD' : 5 < C.tto := by omega
    clear hC hD
    go_wp2_with (go_at_call 28; refine (HWC.out _).mono ?_; rintro e w1 ⟨rfl, x1, rfl⟩)
    go_ret
    exact RetE.fin (HE.out.trans x1.h) (by rw [HC.out]; rfl)
  have hD' : ¬5 < C.tto := by omega
  have HHD := Lib.hid (show headC C = true from by have := HNX.out; unfold headC; simp; omega)
  clear hC
  go_upto_region 3 with (go_at_call 28; refine (HWC.out _).mono ?_; rintro e w1 ⟨rfl, x1, rfl⟩)
  go_wp2
  go_loopw [3] (fun a wr => ∃ k : Nat, k ≤ C.meters.length ∧ a = .int .i64 k ∧ (∀ i (h : i < C.meters.length), i < k → mtB C.tto (mtC C i) = true ∧ extB (exC C i) = true) ∧ ∃ x : ExtW W, wr = x.w) (fun a _ => C.meters.length - (intOf a).toNat)
  case atStart => exact ⟨0, Nat.zero_le _, rfl, fun i _ h => by omega, x1, rfl⟩
  case round =>
    clear x1
    obtain ⟨k, hk, rfl, hG, x, rfl⟩ := hrel
    have HG := Lib.hid hG
    clear hG
    by_cases hlt : k < C.meters.length
    · have hlt' : (k : Int) < (C.meters.length : Int) := by omega
      obtain ⟨rb, ro, p1, d1, p2, d2, hqq, r0, r1, r2, r3, r4⟩ := HP.out k hlt
      subst hqq
      obtain ⟨xb, xo, hxx, xc⟩ := HQ.out.at k (by have := HNX.out; omega)
      subst hxx
      have hsm := HSM.out _ (List.getElem_mem hlt)
      rw [← mtC_get hlt] at r0 r1 r2 r3 r4 hsm
      rw [← exC_get (show k < C.extra.length by have := HNX.out; omega)] at xc
      have hmb : mtB C.tto (mtC C k) = (okB (mtC C k) && decide (C.tto ≤ (mtC C k).weeks.length)) := rfl
      have hxb : extB (exC C k) = winB (exC C k) 0 999 := rfl
      have HBD := Lib.hid (fun (h : ¬(mtB C.tto (mtC C k) = true ∧ extB (exC C k) = true)) => chkC_f (C := C) fun hv => h (by
        have h1 := hv.mt _ (List.getElem_mem hlt)
        have h2 := hv.ex _ (List.getElem_mem (show k < C.extra.length by have := HNX.out; omega))
        rw [← mtC_get hlt] at h1
        rw [← exC_get (show k < C.extra.length by have := HNX.out; omega)] at h2
        exact ⟨by rw [hmb, (okB_iff _).2 h1.1, decide_eq_true h1.2]; rfl, by unfold extB; simp; omega⟩))
      obtain ⟨M, hM⟩ : ∃ M, M = mtC C k := ⟨_, rfl⟩
      rw [← hM] at r0 r1 r2 r3 r4 hsm hmb HBD
      obtain ⟨e, he⟩ : ∃ e, e = exC C k := ⟨_, rfl⟩
      rw [← he] at xc hxb HBD
      have HME := Lib.hid (⟨hM, he⟩ : M = mtC C k ∧ e = exC C k)
      have k0 := ExtW.cell r0
      have k1 := ExtW.cell r1
      have k2 := ExtW.cell r2
      have k3 := ExtW.cell xc
      have HCK := Lib.hid (fun x : ExtW W => ExtW.call (x := x) (rCheck04 M _ x.w (⟨p1, d1, p2, d2, rfl, r3.ext x.h, r4.ext x.h⟩ : MtV x.w (.agg #[.slice p1 M.weeks.length d1, .slice p2 M.reads.length d2, .int .i64 M.wrong]) M) (by omega) (by omega)))
      have HAR := Lib.hid (fun x : ExtW W => ExtW.call (x := x) (AreWeeks04 M C.frm C.tto _ x.w (⟨p1, d1, p2, d2, rfl, r3.ext x.h, r4.ext x.h⟩ : MtV x.w (.agg #[.slice p1 M.weeks.length d1, .slice p2 M.reads.length d2, .int .i64 M.wrong]) M)))
      have HWI := Lib.hid (fun x : ExtW W => ExtW.call (x := x) (within06 e 0 999 x.w))
      have HMB := Lib.hid hmb
      have HXB := Lib.hid hxb
      have har : areB C.frm C.tto M.weeks.length = decide (C.tto ≤ M.weeks.length) := by
        have := HFT.out
        rw [Bool.eq_iff_iff, areB_iff, decide_eq_true_eq]
        omega
      rw [har] at HAR
      have hck := chkM_0 M
      obtain ⟨z, hz⟩ : ∃ z, z = chkM M := ⟨_, rfl⟩
      rw [← hz] at HCK hck
      have HZE : EqS2' z (chkM M) := ⟨hz⟩
      obtain ⟨ok, hok⟩ : ∃ b, b = okB M := ⟨_, rfl⟩
      rw [← hok] at HMB hck
      obtain ⟨ta, hta⟩ : ∃ b, b = decide (C.tto ≤ (M.weeks.length : Int)) := ⟨_, rfl⟩
      rw [← hta] at HAR HMB
      obtain ⟨wx, hwx⟩ : ∃ b, b = winB e 0 999 := ⟨_, rfl⟩
      rw [← hwx] at HWI HXB
      clear r0 r1 r2 r3 r4 xc hsm hmb hxb hM he har hz hok hta hwx
      go_upto_region 6 with (fail)
      cases ok
      case false =>
        have hz40 : z = 40 := by
          have h0 : ¬z = 0 := by simpa using hck
          rw [HZE.out] at h0 ⊢
          unfold chkM at h0 ⊢
          split at h0
          · exact absurd rfl h0
          · next h => rw [if_neg h]
        subst hz40
        have HBD2 := Lib.hid (HBD.out (fun h => by rw [HMB.out] at h; simp at h))
        clear hck
        refine wp_region_extW (by kernel_rfl) (by kernel_rfl) ?_
        repeat (go_big_quiet_step (first | (go_at_call 29; exact HCK.out _)))
        refine wpQuiet_nil ?_
        rintro _ ⟨x2, rfl⟩
        go_wp2
        go_ret
        exact RetE.fin (HE.out.trans x2.h) (by rw [HBD2.out]; rfl)
      case true =>
        have hz0 : z = 0 := by simpa using hck
        subst hz0
        clear hck
        cases ta
        case false =>
          have HBD2 := Lib.hid (HBD.out (fun h => by rw [HMB.out] at h; simp at h))
          refine wp_region_extW (by kernel_rfl) (by kernel_rfl) ?_
          repeat (go_big_quiet_step (first | (go_at_call 29; exact HCK.out _) | (go_at_call 30; exact HAR.out _)))
          refine wpQuiet_nil ?_
          rintro _ ⟨x2, rfl⟩
          go_wp2
          go_ret
          exact RetE.fin (HE.out.trans x2.h) (by rw [HBD2.out]; rfl)
        case true =>
          cases wx
          case false =>
            have HBD2 := Lib.hid (HBD.out (fun h => by rw [HXB.out] at h; cases h.2))
            refine wp_region_extW (by kernel_rfl) (by kernel_rfl) ?_
            repeat (go_big_quiet_step (first | (go_at_call 29; exact HCK.out _) | (go_at_call 30; exact HAR.out _) | (go_at_call 28; exact HWI.out _)))
            refine wpQuiet_nil ?_
            rintro _ ⟨x2, rfl⟩
            go_wp2
            go_ret
            exact RetE.fin (HE.out.trans x2.h) (by rw [HBD2.out]; rfl)
          case true =>
            refine wp_region_extW (by kernel_rfl) (by kernel_rfl) ?_
            repeat (go_big_quiet_step (first | (go_at_call 29; exact HCK.out _) | (go_at_call 30; exact HAR.out _) | (go_at_call 28; exact HWI.out _)))
            refine wpQuiet_nil ?_
            rintro _ ⟨x2, rfl⟩
            go_wp2
            go_roundw
            case rel => exact ⟨k + 1, by omega, by simp, fun i hi h => by
              by_cases e' : i = k
              · subst e'
                rw [← HME.out.1, ← HME.out.2]
                exact ⟨HMB.out, HXB.out⟩
              · exact HG.out i hi (by omega), x2, rfl⟩
            case measure => simp [intOf]; omega
    · obtain rfl : k = C.meters.length := by omega
      have hge : ¬(C.meters.length : Int) < (C.meters.length : Int) := by omega
      have HC := Lib.hid (show chkC C = 0 from by
        unfold chkC
        rw [if_pos]
        unfold okC
        rw [HHD.out]
        simp only [Bool.true_and, Bool.and_eq_true, List.all_eq_true]
        refine ⟨fun x hx => ?_, fun M hM => ?_⟩
        · obtain ⟨i, hi, rfl⟩ := List.getElem_of_mem hx
          rw [← exC_get hi]
          exact (HG.out i (by have := HNX.out; omega) (by have := HNX.out; omega)).2
        · obtain ⟨i, hi, rfl⟩ := List.getElem_of_mem hM
          rw [← mtC_get hi]
          exact (HG.out i hi hi).1)
      go_wp2
      go_ret
      exact RetE.fin (HE.out.trans x.h) (by rw [HC.out]; rfl)
end Go.Proofs.YtppncdbhebgcaaaGreatDoor
namespace Go.Proofs.YtppncdbhebgcaaaGreatDoor
open Go.RowKit

def LisF (l : List Int) (z : Int) (B : Nat) (v : Value) (_ _ : Nat) (w : World) : Prop := ∃ u, v = .tuple #[u, .int .i64 z] ∧ w.ownsRow B 3 1 u l.length (intVs l)
theorem LisF.mono {l : List Int} {z : Int} {B : Nat} : ∀ v s t w w', Ext w w' → LisF l z B v s t w → LisF l z B v s t w' := fun _ _ _ _ _ hE ⟨u, h1, h2⟩ => ⟨u, h1, ownsRow_ext h2 hE⟩
def OwnF (l : List Int) (B : Nat) (v : Value) (_ _ : Nat) (w : World) : Prop := w.ownsRow B 3 1 v l.length (intVs l)
theorem OwnF.mono {l : List Int} {B : Nat} : ∀ v s t w w', Ext w w' → OwnF l B v s t w → OwnF l B v s t w' := fun _ _ _ _ _ hE h => ownsRow_ext h hE
/-- a new slice of one element -/
def OneF (x : Value) (v : Value) (_ _ : Nat) (w : World) : Prop := ∃ g, v = .slice (some ⟨g, 0, none⟩) 1 1 ∧ w.cell? ⟨g, 0, none⟩ = some x
theorem OneF.mono {x : Value} : ∀ v s t w w', Ext w w' → OneF x v s t w → OneF x v s t w' := fun _ _ _ _ _ hE ⟨g, h1, h2⟩ => ⟨g, h1, hE.cell h2⟩
theorem one_news {w : World} {g : Nat} {v : Value} (h : w.cell? ⟨g, 0, none⟩ = some v) : ∀ (j : Nat) (u : Value), [v][j]? = some u → w.cell? ((⟨g, 0, none⟩ : Addr).add j) = some u := by
  intro j u hj
  match j, hj with
  | 0, hj =>
    simp at hj
    subst hj
    exact h
theorem mapTo_succ (l : List Int) (x : Int) {j : Nat} (h : j < l.length) : (l.take (j + 1)).map (· + x) = (l.take j).map (· + x) ++ [l[j] + x] := by
  rw [List.take_succ_eq_append_getElem h, List.map_append]
  rfl
set_option maxRecDepth 20000 in
set_option maxHeartbeats 16000000 in
theorem rNumbers06 (C : Ch) (is : Bool) (v : Value) (w : World) (hv : ChV w v C) (hs : ChSm C) (hf : ∀ M ∈ C.meters, farB M = false) :
    Calls Tryz.prog 57 #[v, .bool is] w (RetTb (askT C is) (errC C is) w) := by
  have HV := Lib.hid hv
  have HS := Lib.hid hs
  have HF := Lib.hid hf
  obtain ⟨p, c, q, d, rfl, hp, hq⟩ := hv
  have HP := Lib.hid hp
  have HQ := Lib.hid hq
  clear hp hq hs hf
  go_enter Tryz.func57, Tryz.ntmps57
  go_upto_region 1 with (fail)
  obtain ⟨s0, hs0⟩ : ∃ s0, s0 = w.heap.size := ⟨_, rfl⟩
  obtain ⟨W, hW⟩ : ∃ W, W = w.alloc (.cells #[.slice p C.meters.length c, .slice q C.extra.length d, .int .i64 C.frm, .int .i64 C.tto] 25) := ⟨_, rfl⟩
  have m0 : W.heap[s0]? = some (.cells #[.slice p C.meters.length c, .slice q C.extra.length d, .int .i64 C.frm, .int .i64 C.tto] 25) := by rw [hs0, hW]; exact heap_new _ _
  have hE : Ext w W := by rw [hW]; exact Ext.alloc (Ext.refl _) _
  rw [← hs0, ← hW]
  have m00 : W.cell? ⟨s0, 0, none⟩ = some (.slice p C.meters.length c) := cell_of_heap m0 0
  have m01 : W.cell? ⟨s0, 1, none⟩ = some (.slice q C.extra.length d) := cell_of_heap m0 1
  have m02 : W.cell? ⟨s0, 2, none⟩ = some (.int .i64 C.frm) := cell_of_heap m0 2
  have m03 : W.cell? ⟨s0, 3, none⟩ = some (.int .i64 C.tto) := cell_of_heap m0 3
  have HCE := Lib.hid (fun y (h : Ext W y) => (⟨h.cell m00, h.cell m01, h.cell m02, h.cell m03, hE.trans h⟩ :
    y.cell? ⟨s0, 0, none⟩ = some (.slice p C.meters.length c) ∧ y.cell? ⟨s0, 1, none⟩ = some (.slice q C.extra.length d) ∧ y.cell? ⟨s0, 2, none⟩ = some (.int .i64 C.frm) ∧ y.cell? ⟨s0, 3, none⟩ = some (.int .i64 C.tto) ∧ Ext w y))
  have HCK := Lib.hid (rCheck06 C _ W (HV.out.ext hE) HS.out)
  have HE := Lib.hid hE
  clear hW m0 hE hs0
  by_cases hC : ValidC C
  case neg =>
    rw [chkC_f hC] at HCK
    have HER := Lib.hid (errC_bad hC is)
    clear hC
    go_wp2_with (go_at_call 6; refine HCK.out.mono ?_; rintro e w2 ⟨rfl, hE2⟩)
    go_ret2
    exact ⟨_, [], by rw [HER.out]; rfl, by rw [askT_ne (by rw [HER.out]; decide)]; exact RwV.nil _ _ _, HE.out.trans hE2, CapOK.nil⟩
  rw [chkC_t hC] at HCK
  cases is
  case false =>
    have HER := Lib.hid (errC_false hC)
    clear hC
    go_wp2_with (go_at_call 6; refine HCK.out.mono ?_; rintro e w2 ⟨rfl, hE2⟩)
    go_ret2
    exact ⟨_, [], by rw [HER.out]; rfl, by rw [askT_ne (by rw [HER.out]; decide)]; exact RwV.nil _ _ _, HE.out.trans hE2, CapOK.nil⟩
  have HVC := Lib.hid hC
  have hn6 := hC.nm
  have hnx := hC.nx
  have hf0 := hC.f0
  have hft := hC.ft
  have ht5 := hC.t5
  rw [hnx] at m01 HCE HCK ⊢
  have HNX : EqS C.extra.length C.meters.length := ⟨hnx⟩
  obtain ⟨i1, hi1, hz1, hy1, hb1⟩ := info_parts info_b
  have HI1 := Lib.hid (⟨hi1, hz1, hy1, hb1⟩ : _ ∧ _ ∧ _ ∧ _)
  obtain ⟨i0, hi0, hz0, hy0, hb0⟩ := info_parts info_a
  have HI0 := Lib.hid (⟨hi0, hz0, hy0, hb0⟩ : _ ∧ _ ∧ _ ∧ _)
  clear hnx hi1 hz1 hy1 hb1 hi0 hz0 hy0 hb0 hC
  go_upto_region 7 with (go_at_call 6; refine HCK.out.mono ?_; rintro e W2 ⟨rfl, hE2⟩; obtain ⟨k0, k1, k2, k3, k4⟩ := HCE.out _ hE2)
  have HE2 := Lib.hid hE2
  clear hE2 m00 m01 m02 m03 k0 k1 k2 k3 k4 HCK
  go_wp2
  go_loopw [7, 8] (fun u i wr => ∃ (k : Nat) (vs : List Value), k ≤ C.meters.length ∧ i = .int .i64 k ∧ Ext W2 wr ∧ RwV wr W2.heap.size u vs (tabTo C k) none ∧ someN C k = false ∧ CapOK vs) (fun _ i _ => C.meters.length - (intOf i).toNat)
  case atStart => exact ⟨0, [], Nat.zero_le _, rfl, Ext.refl _, RwV.nil _ _ _, rfl, CapOK.nil⟩
  case round =>
    obtain ⟨k, vs, hk, rfl, hE, hR, hso, hcp⟩ := hrel
    obtain ⟨wo, rfl⟩ : ∃ wo, wo = wr := ⟨_, rfl⟩
    obtain ⟨k0, k1, k2, k3, k4⟩ := HCE.out wo (HE2.out.trans hE)
    have HEW := Lib.hid hE
    have HR := Lib.hid hR
    have HSO := Lib.hid hso
    have HCP := Lib.hid hcp
    clear hE hR hso hcp
    by_cases hlt : k < C.meters.length
    · have hlt' : (k : Int) < (C.meters.length : Int) := by omega
      obtain ⟨rb, ro, p1, d1, p2, d2, hqq, r0, r1, r2, r3, r4⟩ := HP.out.ext k4 k hlt
      subst hqq
      obtain ⟨xb, xo, hxx, x0⟩ := (HQ.out.ext k4).at k (by have := HNX.out; omega)
      subst hxx
      have hfm := HF.out _ (List.getElem_mem hlt)
      have hex := HVC.out.ex _ (List.getElem_mem (show k < C.extra.length by have := HNX.out; omega))
      obtain ⟨hM, har⟩ := HVC.out.mtI hlt
      rw [← mtC_get hlt] at r0 r1 r2 r3 r4 hfm
      rw [← exC_get (show k < C.extra.length by have := HNX.out; omega)] at x0 hex
      have hrow : rowC C k = (sumsA (mtC C k) C.frm C.tto).map (· + exC C k) := rfl
      have hsn := someN_succ C k
      have hlate := fun ha => someN_mono (C := C) hlt ha
      have hak := ask_known hM
      have hbd := fun hz => fun x (hx : x ∈ sumsA (mtC C k) C.frm C.tto) => sumsA_bound hM har hz hx
      have hnem := fun hz => sumsA_ne hM har hz
      have hsl := sumsA_len (mtC C k) C.frm C.tto
      obtain ⟨M, hMe⟩ : ∃ M, M = mtC C k := ⟨_, rfl⟩
      rw [← hMe] at r0 r1 r2 r3 r4 hM har hrow hsn hlate hak hbd hnem hsl hfm
      obtain ⟨x, hx⟩ : ∃ x, x = exC C k := ⟨_, rfl⟩
      rw [← hx] at x0 hex hrow
      have hsu := fun y (h : Ext wo y) => rSums04 M hfm C.frm C.tto (.agg #[.slice p1 M.weeks.length d1, .slice p2 M.reads.length d2, .int .i64 M.wrong]) y ⟨p1, d1, p2, d2, rfl, r3.ext h, r4.ext h⟩
      rw [har] at hsu
      obtain ⟨l, hl⟩ : ∃ l, l = sumsA M C.frm C.tto := ⟨_, rfl⟩
      rw [← hl] at hsu hrow hbd hnem hsl
      obtain ⟨z, hz⟩ : ∃ z, z = askV M true := ⟨_, rfl⟩
      rw [← hz] at hsu hsn hlate hak hbd hnem
      have HSU := Lib.hid hsu
      have HRO := Lib.hid hrow
      have HSN := Lib.hid hsn
      have HEA := Lib.hid (⟨hak, hlate⟩ : (z = 0 ∨ z = 3) ∧ (¬z = 0 → someN C C.meters.length = true))
      have HRD := Lib.hid (fun y (h : Ext wo y) => (⟨(HCE.out y (HE2.out.trans (HEW.out.trans h))).1, (HCE.out y (HE2.out.trans (HEW.out.trans h))).2.2.1, (HCE.out y (HE2.out.trans (HEW.out.trans h))).2.2.2.1, h.cell r0, h.cell r1, h.cell r2⟩ :
        y.cell? ⟨s0, 0, none⟩ = some (.slice (some ⟨rb, ro, none⟩) C.meters.length c) ∧ y.cell? ⟨s0, 2, none⟩ = some (.int .i64 C.frm) ∧ y.cell? ⟨s0, 3, none⟩ = some (.int .i64 C.tto) ∧
        y.cell? ⟨rb, ro + k * 3, none⟩ = some (.slice p1 M.weeks.length d1) ∧ y.cell? ⟨rb, ro + k * 3 + 1, none⟩ = some (.slice p2 M.reads.length d2) ∧ y.cell? ⟨rb, ro + k * 3 + 2, none⟩ = some (.int .i64 M.wrong)))
      have X0 := Lib.hid x0
      clear hMe hx hl hz hM har r0 r1 r2 r3 r4 hrow hsn hlate hsu x0 hfm
      go_upto_region 10 with (fail)
      refine wp_region_facts 14 [[], [0], [], [1, 2], [3], [], [5], [], [7], [4, 6, 8], [9], [10], [10], [11]] [13, 12] Ext (FL [Is (.pointer (some ⟨s0, 0, none⟩)), Is (.slice (some ⟨rb, ro, none⟩) C.meters.length c), Is (.int .i64 (k : Int)), Is (.pointer (some ⟨rb, ro + k * 3, none⟩)), Is (.agg #[.slice p1 M.weeks.length d1, .slice p2 M.reads.length d2, .int .i64 M.wrong]), Is (.pointer (some ⟨s0, 2, none⟩)), Is (.int .i64 C.frm), Is (.pointer (some ⟨s0, 3, none⟩)), Is (.int .i64 C.tto), LisF l z wo.heap.size, LisF l z wo.heap.size, OwnF l wo.heap.size, Is (.int .i64 z), OwnF l wo.heap.size]) (by kernel_rfl) (by kernel_rfl) Ext.refl (fun _ _ _ => Ext.trans) (fun _ _ => Ext.size) (FL.mono ⟨Is.mono, Is.mono, Is.mono, Is.mono, Is.mono, Is.mono, Is.mono, Is.mono, Is.mono, LisF.mono, LisF.mono, OwnF.mono, Is.mono, OwnF.mono, trivial⟩) ⟨?_, ?_, ?_, ?_, ?_, ?_, ?_, ?_, ?_, ?_, ?_, ?_, ?_, ?_, trivial⟩ ?_
      · refine opF_step ?_
        intro ys l0 h0 w' hr hf K hK
        clear hf
        simp only [fill, Act.put, dstO, List.take_succ_cons, List.take_zero, List.setIfInBounds_toArray, List.set_cons_zero, List.set_cons_succ, List.getElem?_cons_zero, Nat.zero_add, Nat.reduceAdd] at hK ⊢
        refine OpB.mk' ?_
        go_simp
        exact hK.out _ _ rfl (Ext.refl _)
      · refine opF_step ?_
        intro ys l0 h0 w' hr hf K hK
        obtain ⟨f0, -⟩ := hf
        have e0 : ys 0 = _ := f0
        obtain ⟨j0, j1, j2, j3, j4, j5⟩ := HRD.out w' ((Ext.refl wo).drew.trans hr)
        simp only [fill, Act.put, dstO, List.take_succ_cons, List.take_zero, List.setIfInBounds_toArray, List.set_cons_zero, List.set_cons_succ, List.getElem?_cons_zero, List.getElem?_cons_succ, Nat.zero_add, Nat.reduceAdd] at hK ⊢
        simp only [e0] at hK ⊢
        clear e0 f0
        refine OpB.mk' ?_
        go_simp
        exact hK.out _ _ rfl (Ext.refl _)
      · refine opF_step ?_
        intro ys l0 h0 w' hr hf K hK
        clear hf
        simp only [fill, Act.put, dstO, List.take_succ_cons, List.take_zero, List.setIfInBounds_toArray, List.set_cons_zero, List.set_cons_succ, List.getElem?_cons_zero, List.getElem?_cons_succ, Nat.zero_add, Nat.reduceAdd] at hK ⊢
        refine OpB.mk' ?_
        go_simp
        exact hK.out _ _ rfl (Ext.refl _)
      · refine opF_step ?_
        intro ys l0 h0 w' hr hf K hK
        obtain ⟨f0, f1, -⟩ := hf
        have e0 : ys 1 = _ := f0
        have e1 : ys 2 = _ := f1
        simp only [fill, Act.put, dstO, List.take_succ_cons, List.take_zero, List.setIfInBounds_toArray, List.set_cons_zero, List.set_cons_succ, List.getElem?_cons_zero, List.getElem?_cons_succ, Nat.zero_add, Nat.reduceAdd] at hK ⊢
        simp only [e0, e1] at hK ⊢
        clear e0 e1 f0 f1
        refine OpB.mk' ?_
        go_simp
        exact hK.out _ _ rfl (Ext.refl _)
      · refine opF_step ?_
        intro ys l0 h0 w' hr hf K hK
        obtain ⟨f0, -⟩ := hf
        have e0 : ys 3 = _ := f0
        obtain ⟨j0, j1, j2, j3, j4, j5⟩ := HRD.out w' ((Ext.refl wo).drew.trans hr)
        simp only [fill, Act.put, dstO, List.take_succ_cons, List.take_zero, List.setIfInBounds_toArray, List.set_cons_zero, List.set_cons_succ, List.getElem?_cons_zero, List.getElem?_cons_succ, Nat.zero_add, Nat.reduceAdd] at hK ⊢
        simp only [e0] at hK ⊢
        clear e0 f0
        refine OpB.mk' ?_
        go_simp
        exact hK.out _ _ rfl (Ext.refl _)
      · refine opF_step ?_
        intro ys l0 h0 w' hr hf K hK
        clear hf
        simp only [fill, Act.put, dstO, List.take_succ_cons, List.take_zero, List.setIfInBounds_toArray, List.set_cons_zero, List.set_cons_succ, List.getElem?_cons_zero, List.getElem?_cons_succ, Nat.zero_add, Nat.reduceAdd] at hK ⊢
        refine OpB.mk' ?_
        go_simp
        exact hK.out _ _ rfl (Ext.refl _)
      · refine opF_step ?_
        intro ys l0 h0 w' hr hf K hK
        obtain ⟨f0, -⟩ := hf
        have e0 : ys 5 = _ := f0
        obtain ⟨j0, j1, j2, j3, j4, j5⟩ := HRD.out w' ((Ext.refl wo).drew.trans hr)
        simp only [fill, Act.put, dstO, List.take_succ_cons, List.take_zero, List.setIfInBounds_toArray, List.set_cons_zero, List.set_cons_succ, List.getElem?_cons_zero, List.getElem?_cons_succ, Nat.zero_add, Nat.reduceAdd] at hK ⊢
        simp only [e0] at hK ⊢
        clear e0 f0
        refine OpB.mk' ?_
        go_simp
        exact hK.out _ _ rfl (Ext.refl _)
      · refine opF_step ?_
        intro ys l0 h0 w' hr hf K hK
        clear hf
        simp only [fill, Act.put, dstO, List.take_succ_cons, List.take_zero, List.setIfInBounds_toArray, List.set_cons_zero, List.set_cons_succ, List.getElem?_cons_zero, List.getElem?_cons_succ, Nat.zero_add, Nat.reduceAdd] at hK ⊢
        refine OpB.mk' ?_
        go_simp
        exact hK.out _ _ rfl (Ext.refl _)
      · refine opF_step ?_
        intro ys l0 h0 w' hr hf K hK
        obtain ⟨f0, -⟩ := hf
        have e0 : ys 7 = _ := f0
        obtain ⟨j0, j1, j2, j3, j4, j5⟩ := HRD.out w' ((Ext.refl wo).drew.trans hr)
        simp only [fill, Act.put, dstO, List.take_succ_cons, List.take_zero, List.setIfInBounds_toArray, List.set_cons_zero, List.set_cons_succ, List.getElem?_cons_zero, List.getElem?_cons_succ, Nat.zero_add, Nat.reduceAdd] at hK ⊢
        simp only [e0] at hK ⊢
        clear e0 f0
        refine OpB.mk' ?_
        go_simp
        exact hK.out _ _ rfl (Ext.refl _)
      · refine opF_step ?_
        intro ys l0 h0 w' hr hf K hK
        obtain ⟨f0, f1, f2, -⟩ := hf
        have e0 : ys 4 = _ := f0
        have e1 : ys 6 = _ := f1
        have e2 : ys 8 = _ := f2
        simp only [fill, Act.put, dstO, List.take_succ_cons, List.take_zero, List.setIfInBounds_toArray, List.set_cons_zero, List.set_cons_succ, List.getElem?_cons_zero, List.getElem?_cons_succ, Nat.zero_add, Nat.reduceAdd] at hK ⊢
        simp only [e0, e1, e2] at hK ⊢
        clear e0 e1 e2 f0 f1 f2
        refine OpB.mk' ?_
        go_simp
        refine (HSU.out w' ((Ext.refl wo).drew.trans hr)).mono ?_
        rintro e w2 ⟨u, rfl, hO, hE2⟩
        exact hK.out _ _ ⟨u, rfl, ownsRow_base hO (Ext.size ((Ext.refl wo).drew.trans hr))⟩ hE2
      · refine opF_step ?_
        intro ys l0 h0 w' hr hf K hK
        obtain ⟨f0, -⟩ := hf
        obtain ⟨u, e0, hO⟩ := f0
        simp only [fill, Act.put, dstO, List.take_succ_cons, List.take_zero, List.setIfInBounds_toArray, List.set_cons_zero, List.set_cons_succ, List.getElem?_cons_zero, List.getElem?_cons_succ, Nat.zero_add, Nat.reduceAdd] at hK ⊢
        simp only [e0] at hK ⊢
        clear e0
        refine OpB.mk' ?_
        go_simp
        exact hK.out _ _ ⟨u, rfl, hO⟩ (Ext.refl _)
      · refine opF_step ?_
        intro ys l0 h0 w' hr hf K hK
        obtain ⟨f0, -⟩ := hf
        obtain ⟨u, e0, hO⟩ := f0
        simp only [fill, Act.put, dstO, List.take_succ_cons, List.take_zero, List.setIfInBounds_toArray, List.set_cons_zero, List.set_cons_succ, List.getElem?_cons_zero, List.getElem?_cons_succ, Nat.zero_add, Nat.reduceAdd] at hK ⊢
        simp only [e0] at hK ⊢
        clear e0
        refine OpB.mk' ?_
        go_simp
        exact hK.out _ _ hO (Ext.refl _)
      · refine opF_step ?_
        intro ys l0 h0 w' hr hf K hK
        obtain ⟨f0, -⟩ := hf
        obtain ⟨u, e0, hO⟩ := f0
        simp only [fill, Act.put, dstO, List.take_succ_cons, List.take_zero, List.setIfInBounds_toArray, List.set_cons_zero, List.set_cons_succ, List.getElem?_cons_zero, List.getElem?_cons_succ, Nat.zero_add, Nat.reduceAdd] at hK ⊢
        simp only [e0] at hK ⊢
        clear e0
        refine OpB.mk' ?_
        go_simp
        exact hK.out _ _ rfl (Ext.refl _)
      · refine opF_step ?_
        intro ys l0 h0 w' hr hf K hK
        obtain ⟨f0, -⟩ := hf
        simp only [fill, Act.put, dstO, List.take_succ_cons, List.take_zero, List.setIfInBounds_toArray, List.set_cons_zero, List.set_cons_succ, List.getElem?_cons_zero, List.getElem?_cons_succ, Nat.zero_add, Nat.reduceAdd] at hK ⊢
        refine OpB.mk' ?_
        go_simp
        exact hK.out _ _ f0 (Ext.refl _)
      intro ys l0 h0 w2 hr hf hsp
      obtain ⟨f13, f12, -⟩ := hf
      have hOL : w2.ownsRow _ _ _ _ _ _ := f13
      have e12 : ys 12 = _ := f12
      simp only [fill, Act.put, List.take_succ_cons, List.take_zero, List.setIfInBounds_toArray, List.set_cons_zero, List.set_cons_succ, Nat.zero_add, Nat.reduceAdd, List.drop_succ_cons, List.drop_zero]
      rw [e12]
      clear e12 f12
      generalize ys 13 = ul at hOL ⊢
      clear hsp
      have hEY : Ext wo w2 := (Ext.refl wo).drew.trans hr
      have HEY := Lib.hid hEY
      have HOL := Lib.hid hOL
      clear hr hEY hOL HSU
      by_cases hz0 : z = 0
      case neg =>
        have hz3 : z = 3 := HEA.out.1.resolve_left hz0
        have HER := Lib.hid (errC_none HVC.out (HEA.out.2 hz0))
        subst hz3
        clear hz0
        go_wp2
        go_ret2
        exact ⟨_, [], by rw [HER.out]; rfl, by rw [askT_ne (by rw [HER.out]; decide)]; exact RwV.nil _ _ _, HE.out.trans (HE2.out.trans (HEW.out.trans HEY.out)), CapOK.nil⟩
      subst hz0
      have hbd := hbd rfl
      have hl0 : 0 < l.length := List.length_pos_iff.2 (hnem rfl)
      have HSN1 := Lib.hid (show someN C (k + 1) = false from by rw [HSN.out, HSO.out, bP_f (fun h => h rfl)]; rfl)
      have HBD := Lib.hid hbd
      obtain ⟨g, cg, rfl, -⟩ := ownsRow_at HOL.out 0 hl0
      have HLI := Lib.hid (row_ints HOL.out)
      have HCG := Lib.hid (fun y (h : Ext wo y) => (⟨(HCE.out y (HE2.out.trans (HEW.out.trans h))).2.1, h.cell X0.out⟩ : y.cell? ⟨s0, 1, none⟩ = some (.slice (some ⟨xb, xo, none⟩) C.meters.length d) ∧ y.cell? ⟨xb, xo + k, none⟩ = some (.int .i64 x)))
      clear hak hbd hnem HSN HEA k0 k1 k2 k3 k4
      go_wp2
      go_loopw [11, 12] (fun u i w3 => ∃ j : Nat, j ≤ l.length ∧ i = .int .i64 j ∧ Ext w2 w3 ∧ w3.ownsRow w2.heap.size 3 1 u j (intVs ((l.take j).map (· + x)))) (fun _ i _ => l.length - (intOf i).toNat)
      case atStart => exact ⟨0, Nat.zero_le _, rfl, Ext.refl _, World.ownsRow_nil _ _ _ _⟩
      case round =>
        obtain ⟨j, hj, rfl, hE3, hO3⟩ := hrel
        obtain ⟨w3, rfl⟩ : ∃ w3, w3 = wr := ⟨_, rfl⟩
        have HE3 := Lib.hid hE3
        have HO3 := Lib.hid hO3
        clear hE3 hO3
        by_cases hjl : j < l.length
        · have hjl' : (j : Int) < (l.length : Int) := by omega
          obtain ⟨b', o', he, hcx⟩ := HLI.out.at j hjl
          cases he
          have hab := HBD.out l[j] (List.getElem_mem hjl)
          have hms := mapTo_succ l x hjl
          obtain ⟨a, ha⟩ : ∃ a, a = l[j] := ⟨_, rfl⟩
          rw [← ha] at hcx hab hms
          rw [Nat.zero_add] at hcx
          have hw : IntKind.i64.wrap (a + x) = a + x := IntWalk.i64_in _ (by omega)
          have HMS := Lib.hid hms
          have HKC := Lib.hid (fun y (h : Ext w3 y) => (⟨h.cell (HE3.out.cell hcx), (HCG.out y (HEY.out.trans (HE3.out.trans h))).1, (HCG.out y (HEY.out.trans (HE3.out.trans h))).2⟩ :
            y.cell? ⟨g, j, none⟩ = some (.int .i64 a) ∧ y.cell? ⟨s0, 1, none⟩ = some (.slice (some ⟨xb, xo, none⟩) C.meters.length d) ∧ y.cell? ⟨xb, xo + k, none⟩ = some (.int .i64 x)))
          obtain ⟨uu, huu⟩ : ∃ uu, uu = u11 := ⟨_, rfl⟩
          clear ha hms hcx
          go_upto_region 17 with (fail)
          refine wp_region_facts 12 [[], [], [], [1, 2], [3], [], [5], [], [6, 7], [8], [4, 9], [10]] [0, 11] Ext (FL [Is (u11), Is (.slice (some ⟨g, 0, none⟩) l.length cg), Is (.int .i64 (j : Int)), Is (.pointer (some ⟨g, j, none⟩)), Is (.int .i64 a), Is (.pointer (some ⟨s0, 1, none⟩)), Is (.slice (some ⟨xb, xo, none⟩) C.meters.length d), Is (.int .i64 (k : Int)), Is (.pointer (some ⟨xb, xo + k, none⟩)), Is (.int .i64 x), Is (.int .i64 (a + x)), OneF (.int .i64 (a + x))]) (by kernel_rfl) (by kernel_rfl) Ext.refl (fun _ _ _ => Ext.trans) (fun _ _ => Ext.size) (FL.mono ⟨Is.mono, Is.mono, Is.mono, Is.mono, Is.mono, Is.mono, Is.mono, Is.mono, Is.mono, Is.mono, Is.mono, OneF.mono, trivial⟩) ⟨?_, ?_, ?_, ?_, ?_, ?_, ?_, ?_, ?_, ?_, ?_, ?_, trivial⟩ ?_
          · refine opF_step ?_
            intro ys l0 h0 w' hr hf K hK
            clear hf
            simp only [fill, Act.put, dstO, List.take_succ_cons, List.take_zero, List.setIfInBounds_toArray, List.set_cons_zero, List.set_cons_succ, List.getElem?_cons_zero, Nat.zero_add, Nat.reduceAdd] at hK ⊢
            refine OpB.mk' ?_
            go_simp
            exact hK.out _ _ rfl (Ext.refl _)
          · refine opF_step ?_
            intro ys l0 h0 w' hr hf K hK
            clear hf
            simp only [fill, Act.put, dstO, List.take_succ_cons, List.take_zero, List.setIfInBounds_toArray, List.set_cons_zero, List.set_cons_succ, List.getElem?_cons_zero, List.getElem?_cons_succ, Nat.zero_add, Nat.reduceAdd] at hK ⊢
            refine OpB.mk' ?_
            go_simp
            exact hK.out _ _ rfl (Ext.refl _)
          · refine opF_step ?_
            intro ys l0 h0 w' hr hf K hK
            clear hf
            simp only [fill, Act.put, dstO, List.take_succ_cons, List.take_zero, List.setIfInBounds_toArray, List.set_cons_zero, List.set_cons_succ, List.getElem?_cons_zero, List.getElem?_cons_succ, Nat.zero_add, Nat.reduceAdd] at hK ⊢
            refine OpB.mk' ?_
            go_simp
            exact hK.out _ _ rfl (Ext.refl _)
          · refine opF_step ?_
            intro ys l0 h0 w' hr hf K hK
            obtain ⟨f0, f1, -⟩ := hf
            have e0 : ys 1 = _ := f0
            have e1 : ys 2 = _ := f1
            simp only [fill, Act.put, dstO, List.take_succ_cons, List.take_zero, List.setIfInBounds_toArray, List.set_cons_zero, List.set_cons_succ, List.getElem?_cons_zero, List.getElem?_cons_succ, Nat.zero_add, Nat.reduceAdd] at hK ⊢
            simp only [e0, e1] at hK ⊢
            clear e0 e1 f0 f1
            refine OpB.mk' ?_
            go_simp
            exact hK.out _ _ rfl (Ext.refl _)
          · refine opF_step ?_
            intro ys l0 h0 w' hr hf K hK
            obtain ⟨f0, -⟩ := hf
            have e0 : ys 3 = _ := f0
            obtain ⟨j0, j1, j2⟩ := HKC.out w' ((Ext.refl w3).drew.trans hr)
            simp only [fill, Act.put, dstO, List.take_succ_cons, List.take_zero, List.setIfInBounds_toArray, List.set_cons_zero, List.set_cons_succ, List.getElem?_cons_zero, List.getElem?_cons_succ, Nat.zero_add, Nat.reduceAdd] at hK ⊢
            simp only [e0] at hK ⊢
            clear e0 f0
            refine OpB.mk' ?_
            go_simp
            exact hK.out _ _ rfl (Ext.refl _)
          · refine opF_step ?_
            intro ys l0 h0 w' hr hf K hK
            clear hf
            simp only [fill, Act.put, dstO, List.take_succ_cons, List.take_zero, List.setIfInBounds_toArray, List.set_cons_zero, List.set_cons_succ, List.getElem?_cons_zero, List.getElem?_cons_succ, Nat.zero_add, Nat.reduceAdd] at hK ⊢
            refine OpB.mk' ?_
            go_simp
            exact hK.out _ _ rfl (Ext.refl _)
          · refine opF_step ?_
            intro ys l0 h0 w' hr hf K hK
            obtain ⟨f0, -⟩ := hf
            have e0 : ys 5 = _ := f0
            obtain ⟨j0, j1, j2⟩ := HKC.out w' ((Ext.refl w3).drew.trans hr)
            simp only [fill, Act.put, dstO, List.take_succ_cons, List.take_zero, List.setIfInBounds_toArray, List.set_cons_zero, List.set_cons_succ, List.getElem?_cons_zero, List.getElem?_cons_succ, Nat.zero_add, Nat.reduceAdd] at hK ⊢
            simp only [e0] at hK ⊢
            clear e0 f0
            refine OpB.mk' ?_
            go_simp
            exact hK.out _ _ rfl (Ext.refl _)
          · refine opF_step ?_
            intro ys l0 h0 w' hr hf K hK
            clear hf
            simp only [fill, Act.put, dstO, List.take_succ_cons, List.take_zero, List.setIfInBounds_toArray, List.set_cons_zero, List.set_cons_succ, List.getElem?_cons_zero, List.getElem?_cons_succ, Nat.zero_add, Nat.reduceAdd] at hK ⊢
            refine OpB.mk' ?_
            go_simp
            exact hK.out _ _ rfl (Ext.refl _)
          · refine opF_step ?_
            intro ys l0 h0 w' hr hf K hK
            obtain ⟨f0, f1, -⟩ := hf
            have e0 : ys 6 = _ := f0
            have e1 : ys 7 = _ := f1
            simp only [fill, Act.put, dstO, List.take_succ_cons, List.take_zero, List.setIfInBounds_toArray, List.set_cons_zero, List.set_cons_succ, List.getElem?_cons_zero, List.getElem?_cons_succ, Nat.zero_add, Nat.reduceAdd] at hK ⊢
            simp only [e0, e1] at hK ⊢
            clear e0 e1 f0 f1
            refine OpB.mk' ?_
            go_simp
            exact hK.out _ _ rfl (Ext.refl _)
          · refine opF_step ?_
            intro ys l0 h0 w' hr hf K hK
            obtain ⟨f0, -⟩ := hf
            have e0 : ys 8 = _ := f0
            obtain ⟨j0, j1, j2⟩ := HKC.out w' ((Ext.refl w3).drew.trans hr)
            simp only [fill, Act.put, dstO, List.take_succ_cons, List.take_zero, List.setIfInBounds_toArray, List.set_cons_zero, List.set_cons_succ, List.getElem?_cons_zero, List.getElem?_cons_succ, Nat.zero_add, Nat.reduceAdd] at hK ⊢
            simp only [e0] at hK ⊢
            clear e0 f0
            refine OpB.mk' ?_
            go_simp
            exact hK.out _ _ rfl (Ext.refl _)
          · refine opF_step ?_
            intro ys l0 h0 w' hr hf K hK
            obtain ⟨f0, f1, -⟩ := hf
            have e0 : ys 4 = _ := f0
            have e1 : ys 9 = _ := f1
            simp only [fill, Act.put, dstO, List.take_succ_cons, List.take_zero, List.setIfInBounds_toArray, List.set_cons_zero, List.set_cons_succ, List.getElem?_cons_zero, List.getElem?_cons_succ, Nat.zero_add, Nat.reduceAdd] at hK ⊢
            simp only [e0, e1] at hK ⊢
            clear e0 e1 f0 f1
            refine OpB.mk' ?_
            go_simp
            exact hK.out _ _ rfl (Ext.refl _)
          · refine opF_step ?_
            intro ys l0 h0 w' hr hf K hK
            obtain ⟨f0, -⟩ := hf
            have e0 : ys 10 = _ := f0
            simp only [fill, Act.put, dstO, List.take_succ_cons, List.take_zero, List.setIfInBounds_toArray, List.set_cons_zero, List.set_cons_succ, List.getElem?_cons_zero, List.getElem?_cons_succ, Nat.zero_add, Nat.reduceAdd] at hK ⊢
            simp only [e0] at hK ⊢
            clear e0 f0
            refine OpB.mk' ?_
            go_simp
            exact hK.out _ _ ⟨w'.heap.size, rfl, cell_of_heap (heap_new w' _) 0⟩ (Ext.alloc (Ext.refl _) _)
          intro ys l0 h0 w4 hr hf hsp
          obtain ⟨f0, f11, -⟩ := hf
          have e0 : ys 0 = _ := f0
          obtain ⟨gn, e11, hnc⟩ := f11
          simp only [fill, Act.put, List.take_succ_cons, List.take_zero, List.setIfInBounds_toArray, List.set_cons_zero, List.set_cons_succ, Nat.zero_add, Nat.reduceAdd, List.drop_succ_cons, List.drop_zero]
          rw [e0, e11]
          clear e0 f0
          clear hsp
          have hE4 : Ext w3 w4 := (Ext.refl w3).drew.trans hr
          have HE4 := Lib.hid hE4
          have HNC := Lib.hid hnc
          have hsz := HE4.out.size
          have hsz3 := HE3.out.size
          clear hr hE4 hnc
          go_wp2_with (at_builtin; refine wpList_append_lies _ rfl (.tmp 49) (.tmp 60) 23 rfl w2.heap.size 3 i0 (.int .i64 0) 1 8 Tryz.underlying23 HI0.out.1 HI0.out.2.1 HI0.out.2.2.1 HI0.out.2.2.2 rfl (by decide) _ j _ rfl (ownsRow_ext HO3.out HE4.out) ⟨gn, 0, none⟩ 1 1 [.int .i64 (a + x)] rfl rfl (one_news HNC.out) (one_int _) (by decide) ?c3 ?c4 ?c5 w4.heap.size rfl ?_)
          case c3 => unfold maxLen; omega
          case c4 => omega
          case c5 => omega
          intro g5 cap5 w5 hown5 hgr5 hat5 hlt5
          have hE5 : Ext w2 w5 := Below.grown (HE3.out.trans HE4.out) hgr5 (HE3.out.trans HE4.out).size (fun i hi => (HO3.out.lt i hi).1)
          have HO5 := Lib.hid hown5
          have HE5 := Lib.hid hE5
          clear hown5 hgr5 hat5 hlt5 hE5
          go_wp2
          go_roundw
          case rel => exact ⟨j + 1, by omega, by simp, HE5.out, by rw [HMS.out, intVs_snoc, List.map_take]; exact HO5.out⟩
          case measure => simp [intOf]; omega
        · obtain rfl : j = l.length := by omega
          have hge : ¬(l.length : Int) < (l.length : Int) := by omega
          have hO3 := HO3.out
          rw [List.take_length, ← HRO.out] at hO3
          have hln : l.length = (rowC C k).length := by rw [HRO.out]; simp
          have hlv : vs.length = k := by have := HR.out.len; rw [tabTo_len] at this; exact this
          obtain ⟨g3, c3, rfl, -⟩ := ownsRow_at hO3 0 hl0
          have HNI := Lib.hid (fun r (hr : ∀ b, r = some b → b < w2.heap.size) => (by
            obtain ⟨q', c', he, hn⟩ := own_ne_ints hln hO3 r hr
            cases he
            exact hn : IntsNe r w3 (some ⟨g3, 0, none⟩) (rowC C k)))
          have HLN : EqS l.length (rowC C k).length := ⟨hln⟩
          have HLV : EqS vs.length k := ⟨hlv⟩
          have HOC := Lib.hid (own_cap hO3)
          have HEZ := Lib.hid (HEY.out.trans HE3.out)
          clear hln hlv hO3
          have hsz := HEZ.out.size
          have hszw := HEW.out.size
          have hszy := HEY.out.size
          go_wp2_with (at_builtin; refine wpList_append_lies _ rfl (.tmp 62) (.tmp 64) 30 rfl W2.heap.size 23 i1 (.slice none 0 0) 1 24 Tryz.underlying30 HI1.out.1 HI1.out.2.1 HI1.out.2.2.1 HI1.out.2.2.2 rfl (by decide) _ vs.length vs rfl (ownsRow_ext HR.out.out (HEZ.out.alloc _)) ⟨w3.heap.size, 0, none⟩ 1 1 [.slice (some ⟨g3, 0, none⟩) l.length c3] rfl rfl (hnewsE (Ext.refl _) rfl) (fun u hu => by rw [List.mem_singleton.1 hu]; rfl) (by decide) ?d3 ?d4 ?d5 (w3.heap.size + 1) (size_alloc _ _) ?_)
          case d3 => have := HLV.out; unfold maxLen; omega
          case d4 => have := HLV.out; omega
          case d5 => first | omega | (rw [size_alloc]; omega)
          intro g4 cap4 w4 hown4 hgr4 hat4 hlt4
          have hE4 : Ext W2 w4 := Below.grown (HEW.out.trans (HEZ.out.alloc _)) hgr4 (HEW.out.trans (HEZ.out.alloc _)).size (fun i hi => (HR.out.out.lt i hi).1)
          have hstep := HR.out.step (r := none) (xs := [.slice (some ⟨g3, 0, none⟩) l.length c3]) (Ms := [rowC C k]) (HEZ.out.alloc _) rfl (fun i hi => by
            obtain rfl : i = 0 := by simpa using hi
            exact ⟨_, c3, by rw [HLN.out]; rfl, (HNI.out _ (fun b hb => Nat.lt_of_lt_of_le (HR.out.out.lt b hb).2 hszy)).ext (Ext.alloc (Ext.refl _) _)⟩) (fun i hi => by
            obtain rfl : i = 0 := by simpa using hi
            exact ⟨_, c3, by rw [HLN.out]; rfl, (HNI.out _ (fun b hb => by cases hb)).ext (Ext.alloc (Ext.refl _) _)⟩) hown4 hgr4 (by rw [size_alloc]; exact hat4)
          rw [← tabTo_succ] at hstep
          have HE4 := Lib.hid hE4
          have HST := Lib.hid hstep
          clear hown4 hgr4 hat4 hlt4 hE4 hstep
          go_wp2
          go_roundw
          case rel => exact ⟨k + 1, _, by omega, by simp, HE4.out, HST.out, HSN1.out, HCP.out.snoc HOC.out⟩
          case measure => simp [intOf]; omega
    · obtain rfl : k = C.meters.length := by omega
      have hlt' : ¬(C.meters.length : Int) < (C.meters.length : Int) := by omega
      have HER := Lib.hid (errC_ok HVC.out HSO.out)
      go_wp2
      go_ret2
      exact ⟨_, vs, by rw [HER.out]; rfl, by rw [askT_0 HER.out]; exact HR.out.base (HE.out.trans HE2.out).size, HE.out.trans (HE2.out.trans HEW.out), HCP.out⟩
set_option maxRecDepth 20000 in
theorem All06 (C : Ch) (v : Value) (w : World) (hv : ChV w v C) (hs : ChSm C) (hf : ∀ M ∈ C.meters, farB M = false) :
    Calls Tryz.prog 27 #[v] w (RetTb (askT C true) (errC C true) w) := by
  have HN := Lib.hid (fun y (h : Ext w y) => rNumbers06 C true v y (hv.ext h) hs hf)
  obtain ⟨p, c, q, d, rfl, hp, hq⟩ := hv
  clear hp hq
  go_enter Tryz.func27, Tryz.ntmps27
  go_upto_region 1 with (fail)
  obtain ⟨s0, hs0⟩ : ∃ s0, s0 = w.heap.size := ⟨_, rfl⟩
  obtain ⟨W, hW⟩ : ∃ W, W = w.alloc (.cells #[.slice p C.meters.length c, .slice q C.extra.length d, .int .i64 C.frm, .int .i64 C.tto] 25) := ⟨_, rfl⟩
  have m0 : W.heap[s0]? = some (.cells #[.slice p C.meters.length c, .slice q C.extra.length d, .int .i64 C.frm, .int .i64 C.tto] 25) := by rw [hs0, hW]; exact heap_new _ _
  have hE : Ext w W := by rw [hW]; exact Ext.alloc (Ext.refl _) _
  rw [← hs0, ← hW]
  have HNW := Lib.hid (HN.out W hE)
  have d0 := cell_of_heap m0 0
  have d1 := cell_of_heap m0 1
  have d2 := cell_of_heap m0 2
  have d3 := cell_of_heap m0 3
  have HE := Lib.hid hE
  clear hW m0 hE hs0
  go_wp2_with (go_at_call 57; refine HNW.out.mono ?_; rintro e w2 ⟨u, vs, rfl, hR, hE2, hcp⟩)
  go_ret2
  exact ⟨_, vs, rfl, hR.base HE.out.size, HE.out.trans hE2, hcp⟩
end Go.Proofs.YtppncdbhebgcaaaGreatDoor
namespace Go.Proofs.YtppncdbhebgcaaaGreatDoor
open Go.RowKit

theorem waysT_snoc (T : Tab) (r : List Int) : waysT (T ++ [r]) = waysT T * r.length := by
  induction T with
  | nil => show r.length * 1 = 1 * _; omega
  | cons x T ih =>
    show x.length * waysT (T ++ [r]) = x.length * waysT T * _
    rw [ih, Nat.mul_assoc]
theorem waysT_app (T U : Tab) : waysT (T ++ U) = waysT T * waysT U := by
  induction T with
  | nil => show waysT U = 1 * _; omega
  | cons x T ih =>
    show x.length * waysT (T ++ U) = x.length * waysT T * _
    rw [ih, Nat.mul_assoc]
def wayK (T : Tab) (k : Nat) : Nat := waysT (T.take k)
theorem wayK_succ (T : Tab) {k : Nat} (h : k < T.length) : wayK T (k + 1) = wayK T k * (rowT T k).length := by
  unfold wayK
  rw [List.take_succ_eq_append_getElem h, waysT_snoc, rowT_get h]
theorem wayK_all (T : Tab) : wayK T T.length = waysT T := by unfold wayK; rw [List.take_length]
theorem wayK_le {T : Tab} (hT : ∀ l ∈ T, l ≠ []) (k : Nat) : wayK T k ≤ waysT T := by
  have e : waysT T = waysT (T.take k) * waysT (T.drop k) := by rw [← waysT_app, List.take_append_drop]
  have h1 := waysT_pos (T := T.drop k) fun l hl => hT l (List.mem_of_mem_drop hl)
  have h2 := Nat.mul_le_mul_left (waysT (T.take k)) h1
  unfold wayK
  omega
noncomputable def waysF (C : Ch) : Nat := waysT (askT C true)
noncomputable def farC (C : Ch) : Bool := if 20 < C.meters.length ∨ 40 < C.extra.length then true else if C.meters.any farB = true then true else decide (70 < waysF C)
theorem askT_rows (C : Ch) : (∀ l ∈ askT C true, l ≠ []) ∧ (∀ l ∈ askT C true, l.length ≤ 2000) ∧ (askT C true).length ≤ 6 := by
  by_cases hz : errC C true = 0
  · obtain ⟨hC, -, hso⟩ := errC_0 hz
    have hG := tabC_ok hC hso
    rw [askT_0 hz]
    exact ⟨fun l hl => (hG.ok l hl).1, hG.ls, hG.len⟩
  · rw [askT_ne hz]
    exact ⟨(fun l hl => by cases hl), (fun l hl => by cases hl), by simp⟩

set_option maxRecDepth 20000 in
set_option maxHeartbeats 3200000 in
theorem Far06 (C : Ch) (v : Value) (w : World) (hv : ChV w v C) : Calls Tryz.prog 5 #[v] w (RetE (.bool (farC C)) w) := by
  have HV := Lib.hid hv
  obtain ⟨p, c, q, d, rfl, hp, hq⟩ := hv
  go_enter Tryz.func5, Tryz.ntmps5
  go_upto_region 1 with (fail)
  obtain ⟨s0, hs0⟩ : ∃ s0, s0 = w.heap.size := ⟨_, rfl⟩
  obtain ⟨W, hW⟩ : ∃ W, W = w.alloc (.cells #[.slice p C.meters.length c, .slice q C.extra.length d, .int .i64 C.frm, .int .i64 C.tto] 25) := ⟨_, rfl⟩
  have m0 : W.heap[s0]? = some (.cells #[.slice p C.meters.length c, .slice q C.extra.length d, .int .i64 C.frm, .int .i64 C.tto] 25) := by rw [hs0, hW]; exact heap_new _ _
  have hE : Ext w W := by rw [hW]; exact Ext.alloc (Ext.refl _) _
  rw [← hs0, ← hW]
  have q0 := ExtW.cell (v := .slice p C.meters.length c) (cell_of_heap m0 0)
  have q1 := ExtW.cell (v := .slice q C.extra.length d) (cell_of_heap m0 1)
  have q2 := ExtW.cell (v := .int .i64 C.frm) (cell_of_heap m0 2)
  have q3 := ExtW.cell (v := .int .i64 C.tto) (cell_of_heap m0 3)
  have HE := Lib.hid hE
  have HP := Lib.hid (hp.ext hE)
  have HQ := Lib.hid (hq.ext hE)
  have HVW := Lib.hid (fun y (h : Ext W y) => HV.out.ext (hE.trans h))
  obtain ⟨x0, hx0⟩ := ExtW.of (Ext.refl W)
  clear hW m0 hE hs0 hp hq
  conv => arg 5; rw [hx0]
  clear hx0
  by_cases hA : 20 < C.meters.length
  · have HC := Lib.hid (show farC C = true from by unfold farC; rw [if_pos (Or.inl hA)])
    have hA' : 20 < (C.meters.length : Int) := by omega
    clear hA
    go_wp2
    go_ret
    exact RetE.fin (HE.out.trans x0.h) (by rw [HC.out]; rfl)
  have hA' : ¬20 < (C.meters.length : Int) := by omega
  by_cases hB : 40 < C.extra.length
  · have HC := Lib.hid (show farC C = true from by unfold farC; rw [if_pos (Or.inr hB)])
    have hB' : 40 < (C.extra.length : Int) := by omega
    clear hB
    go_wp2
    go_ret
    exact RetE.fin (HE.out.trans x0.h) (by rw [HC.out]; rfl)
  have hB' : ¬40 < (C.extra.length : Int) := by omega
  have hfe : farC C = if C.meters.any farB = true then true else decide (70 < waysF C) := by unfold farC; rw [if_neg (by omega)]
  have HFE := Lib.hid hfe
  clear hfe
  go_wp2
  go_loopw [3] (fun a wr => ∃ k : Nat, k ≤ C.meters.length ∧ a = .int .i64 k ∧ (∀ i (h : i < C.meters.length), i < k → farB C.meters[i] = false) ∧ ∃ x : ExtW W, wr = x.w) (fun a _ => C.meters.length - (intOf a).toNat)
  case atStart => exact ⟨0, Nat.zero_le _, rfl, fun i _ h => by omega, x0, rfl⟩
  case round =>
    clear x0
    obtain ⟨k, hk, rfl, hG, x, rfl⟩ := hrel
    have HG := Lib.hid hG
    clear hG
    by_cases hlt : k < C.meters.length
    · have hlt' : (k : Int) < (C.meters.length : Int) := by omega
      obtain ⟨rb, ro, p1, d1, p2, d2, hqq, r0, r1, r2, r3, r4⟩ := HP.out k hlt
      subst hqq
      have hany := fun (h : farB C.meters[k] = true) => (List.any_eq_true.2 ⟨_, List.getElem_mem hlt, h⟩ : C.meters.any farB = true)
      obtain ⟨M, hM⟩ : ∃ M, M = C.meters[k] := ⟨_, rfl⟩
      rw [← hM] at r0 r1 r2 r3 r4 hany
      have HM : M = C.meters[k] := hM
      have k0 := ExtW.cell r0
      have k1 := ExtW.cell r1
      have k2 := ExtW.cell r2
      have HFA := Lib.hid (fun x : ExtW W => ExtW.call (x := x) (Far04 M _ x.w (⟨p1, d1, p2, d2, rfl, r3.ext x.h, r4.ext x.h⟩ : MtV x.w (.agg #[.slice p1 M.weeks.length d1, .slice p2 M.reads.length d2, .int .i64 M.wrong]) M)))
      obtain ⟨fb, hfb⟩ : ∃ b, b = farB M := ⟨_, rfl⟩
      rw [← hfb] at HFA hany
      have HFB := Lib.hid (show fb = farB C.meters[k] from by rw [hfb, hM])
      have HAN := Lib.hid hany
      clear r0 r1 r2 r3 r4 hany hM HM hfb
      cases fb
      case true =>
        have HC := Lib.hid (show farC C = true from by rw [HFE.out, if_pos (HAN.out rfl)])
        go_wp2_with (go_at_call 26; refine (HFA.out _).mono ?_; rintro e w1 ⟨rfl, x1, rfl⟩)
        go_ret
        exact RetE.fin (HE.out.trans x1.h) (by rw [HC.out]; rfl)
      case false =>
        go_wp2_with (go_at_call 26; refine (HFA.out _).mono ?_; rintro e w1 ⟨rfl, x1, rfl⟩)
        go_roundw
        case rel => exact ⟨k + 1, by omega, by simp, fun i hi h => by
          by_cases e' : i = k
          · subst e'; exact HFB.out.symm
          · exact HG.out i hi (by omega), x1, rfl⟩
        case measure => simp [intOf]; omega
    · obtain rfl : k = C.meters.length := by omega
      have hge : ¬(C.meters.length : Int) < (C.meters.length : Int) := by omega
      have hfm : ∀ M ∈ C.meters, farB M = false := fun M hM => by
        obtain ⟨i, hi, rfl⟩ := List.getElem_of_mem hM
        exact HG.out i hi hi
      have hna : ¬C.meters.any farB = true := fun h => by
        obtain ⟨M, hM, h1⟩ := List.any_eq_true.1 h
        rw [hfm M hM] at h1
        cases h1
      have hsm : ChSm C := ⟨by omega, by omega, fun M hM => far_len (hfm M hM)⟩
      have HC := Lib.hid (show farC C = decide (70 < waysT (askT C true)) from by rw [HFE.out, if_neg hna]; rfl)
      have HAL := Lib.hid (All06 C _ x.w (HVW.out x.w x.h) hsm hfm)
      obtain ⟨hrn, hrl, hr6⟩ := askT_rows C
      have hez : ¬errC C true = 0 → askT C true = [] := askT_ne
      obtain ⟨T, hT⟩ : ∃ T, T = askT C true := ⟨_, rfl⟩
      obtain ⟨z, hz⟩ : ∃ z, z = errC C true := ⟨_, rfl⟩
      rw [← hT] at HC HAL hrn hrl hr6 hez
      rw [← hz] at HAL hez
      have HRN := Lib.hid hrn
      have HRL := Lib.hid hrl
      have HEZ := Lib.hid hez
      clear hfm hna hsm hT hz hrn hrl hez
      go_upto_region 9 with (go_at_call 27; refine HAL.out.mono ?_; rintro e w2 ⟨u, vs, rfl, hR, hE2, hcp⟩)
      obtain ⟨qt, ct, rfl, hLT⟩ := hR.lists
      have HLT := Lib.hid hLT
      have HE2 := Lib.hid (HE.out.trans (x.h.trans hE2))
      clear hR hLT hE2 hcp HAL q0 q1 q2 q3
      go_wp2
      go_loopw [6, 7] (fun n i wr => ∃ j : Nat, j ≤ T.length ∧ i = .int .i64 j ∧ n = .int .i64 (wayK T j : Nat) ∧ wayK T j ≤ 140000 ∧ wr = w2) (fun _ i _ => T.length - (intOf i).toNat)
      case atStart => exact ⟨0, Nat.zero_le _, rfl, rfl, by show (1:Nat) ≤ 140000; decide, rfl⟩
      case round =>
        obtain ⟨j, hj, rfl, rfl, hbd, rfl⟩ := hrel
        have hwl := wayK_le HRN.out j
        have hwa := wayK_all T
        by_cases hjl : j < T.length
        · have hjl' : (j : Int) < (T.length : Int) := by omega
          have hz0 : z = 0 := Classical.byContradiction fun h => by rw [HEZ.out h] at hjl; simp at hjl
          subst hz0
          have hws := wayK_succ T hjl
          obtain ⟨b1, o1, q1, c1, he, hc1, -⟩ := HLT.out.row hjl
          subst he
          have hl2 : (rowT T j).length ≤ 2000 := by rw [rowT_get hjl]; exact HRL.out _ (List.getElem_mem hjl)
          obtain ⟨ln, hln⟩ : ∃ ln, ln = (rowT T j).length := ⟨_, rfl⟩
          rw [← hln] at hc1 hl2 hws
          obtain ⟨m, hm⟩ : ∃ m, m = wayK T j := ⟨_, rfl⟩
          rw [← hm] at hbd hwl hws ⊢
          by_cases h70 : m ≤ 70
          · have h70' : (m : Int) ≤ 70 := by omega
            have hmb : m * ln ≤ 140000 := Nat.le_trans (Nat.mul_le_mul h70 hl2) (by decide)
            have hw : IntKind.i64.wrap ((m : Int) * (ln : Int)) = ((m * ln : Nat) : Int) := by rw [← Int.natCast_mul]; exact IntWalk.i64_in _ (by omega)
            obtain ⟨pr, hpr⟩ : ∃ pr, pr = m * ln := ⟨_, rfl⟩
            rw [← hpr] at hmb hw hws
            have HWS := Lib.hid hws
            clear hws hln hm hpr hwl hwa
            go_wp2
            go_roundw
            case rel => exact ⟨j + 1, by omega, by simp, by rw [HWS.out], by rw [HWS.out]; exact hmb, trivial⟩
            case measure => simp [intOf]; omega
          · have h70' : ¬(m : Int) ≤ 70 := by omega
            have h71 : 70 < (m : Int) := by omega
            have HRS := Lib.hid (show decide (70 < waysT T) = true from decide_eq_true (by omega))
            clear hws hln hm hwl hwa
            go_wp2
            go_ret
            exact RetE.fin HE2.out (by rw [HC.out, HRS.out]; rfl)
        · obtain rfl : j = T.length := by omega
          rw [hwa] at hbd hwl ⊢
          have hge : ¬(T.length : Int) < (T.length : Int) := by omega
          obtain ⟨m, hm⟩ : ∃ m, m = waysT T := ⟨_, rfl⟩
          rw [← hm] at HC hbd hwl ⊢
          clear hwa hm
          by_cases h70 : 70 < m
          · have h71 : 70 < (m : Int) := by omega
            have HRS := Lib.hid (show decide (70 < m) = true from decide_eq_true h70)
            go_wp2
            go_ret
            exact RetE.fin HE2.out (by rw [HC.out, HRS.out]; rfl)
          · have h71 : ¬70 < (m : Int) := by omega
            have HRS := Lib.hid (show decide (70 < m) = false from decide_eq_false h70)
            go_wp2
            go_ret
            exact RetE.fin HE2.out (by rw [HC.out, HRS.out]; rfl)
end Go.Proofs.YtppncdbhebgcaaaGreatDoor
namespace Go.Proofs.YtppncdbhebgcaaaGreatDoor
open Go.RowKit

end Go.Proofs.YtppncdbhebgcaaaGreatDoor
