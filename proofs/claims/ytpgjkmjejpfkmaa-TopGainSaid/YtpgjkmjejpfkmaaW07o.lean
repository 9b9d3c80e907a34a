/- The walks of given and Fits. -/
import Derived.Test.YtpgjkmjejpfkmaaW07n
import Derived.Deep.RegionWith
import Derived.Deep.RegionHeld3
namespace Go.Proofs.Ytpgjkmjejpfkmaa
open Go.RowKit

/-- lists are a plan of a visit -/
def IsPlan (S : Swap) (L : List (List Int)) : Prop := L.length = S.boxes.length ∧ ∀ i (h : i < L.length), L[i].length = (S.boxes.getD i []).length ∧ Rises L[i] 0 ((S.stock.length : Int) - 1)
/-- the sets of the first lists -/
def planTo (L : List (List Int)) (k : Nat) : Nat → Nat := fun j => if j < k then maskOf (L.getD j []) else 0
theorem planTo_succ (L : List (List Int)) (k : Nat) : planTo L (k + 1) = upd (planTo L k) k (maskOf (L.getD k [])) := by
  funext j
  unfold planTo upd
  by_cases h : j = k
  · subst h; simp
  · by_cases h2 : j < k
    · simp [h, h2, Nat.lt_succ_of_lt h2]
    · simp [h, h2, show ¬ j < k + 1 from by omega]

def GivenPost (S : Swap) (L : List (List Int)) (w : World) (e : Ending) (w' : World) : Prop :=
  (Valid S ∧ IsPlan S L ∧ ∃ b, e = .returned (.tuple #[.pointer (some ⟨b, 0, none⟩), pl3 (planTo L L.length), .int .i64 0]) ∧ VisitAt w' b (openV S) ∧ Ext w w') ∨
  (Valid S ∧ ¬IsPlan S L ∧ e = .returned (.tuple #[.pointer none, pl3 (fun _ => 0), .int .i64 1]) ∧ Ext w w') ∨
  (¬Valid S ∧ e = .returned (.tuple #[.pointer none, pl3 (fun _ => 0), .int .i64 70]) ∧ Ext w w')

theorem zero3 {X : World} {B : Nat} (h : X.heap[B]? = some (box3 fun _ => 0)) : (((X.setCell ⟨B, 0, none⟩ (.int .u64 0)).setCell ⟨B, 1, none⟩ (.int .u64 0)).setCell ⟨B, 2, none⟩ (.int .u64 0)).heap[B]? = some (box3 fun _ => 0) :=
  heap_set (heap_set (heap_set h rfl) rfl) rfl

set_option maxHeartbeats 1600000 in
theorem given07 (v : Value) (S : Swap) (pp : Option Addr) (pc : Nat) (L : List (List Int)) (w : World) (hv : SwapV w v S) (hM : Modest S) (hL : ListsAt w pp L) (hLl : L.length ≤ 100000) (hLr : ∀ i (h : i < L.length), L[i].length ≤ 100000) :
    Calls Try.prog 79 #[v, .slice pp L.length pc] w (GivenPost S L w) := by
  have hC := fun w' (h : Ext w w') => Check07 v S w' (SwapV.mono _ _ _ _ h hv) hM
  obtain ⟨p0, c0, p1, c1, p2, c2, p3, c3, rfl, h0, h1, h2, h3⟩ := id hv
  have HC := Lib.hid hC
  clear hC
  go_enter Try.func79, Try.ntmps79
  go_upto_region 1 with (fail)
  have hn := heap_new1 w (.cells #[.slice p0 S.boxes.length c0, .slice p1 S.stock.length c1, .slice p2 S.earn.length c2, .slice p3 S.keeps.length c3, .int .i64 S.changes] 26) (.cells #[.int .u64 0, .int .u64 0, .int .u64 0] 78)
  have hn2 := heap_new2 w (.cells #[.slice p0 S.boxes.length c0, .slice p1 S.stock.length c1, .slice p2 S.earn.length c2, .slice p3 S.keeps.length c3, .int .i64 S.changes] 26) (.cells #[.int .u64 0, .int .u64 0, .int .u64 0] 78)
  obtain ⟨W, hW⟩ : ∃ W, W = (w.alloc (.cells #[.slice p0 S.boxes.length c0, .slice p1 S.stock.length c1, .slice p2 S.earn.length c2, .slice p3 S.keeps.length c3, .int .i64 S.changes] 26)).alloc (.cells #[.int .u64 0, .int .u64 0, .int .u64 0] 78) := ⟨_, rfl⟩
  have hE : Ext w W := by rw [hW]; exact Ext.alloc (Ext.alloc (Ext.refl w) _) _
  rw [← hW] at hn hn2 ⊢
  have hsz : W.heap.size = w.heap.size + 2 := by rw [hW]; simp
  have q0 := ExtW.cell (v := .slice p0 S.boxes.length c0) (cell_of_heap hn 0)
  have q1 := ExtW.cell (v := .slice p1 S.stock.length c1) (cell_of_heap hn 1)
  have q2 := ExtW.cell (v := .slice p2 S.earn.length c2) (cell_of_heap hn 2)
  have q3 := ExtW.cell (v := .slice p3 S.keeps.length c3) (cell_of_heap hn 3)
  have q4 := ExtW.cell (v := .int .i64 S.changes) (cell_of_heap hn 4)
  have z0 := ExtW.cell (v := .int .u64 0) (cell_of_heap hn2 0)
  have z1 := ExtW.cell (v := .int .u64 0) (cell_of_heap hn2 1)
  have z2 := ExtW.cell (v := .int .u64 0) (cell_of_heap hn2 2)
  have zf : ∀ (x : ExtW W) k, x.w.frozen? ⟨w.heap.size + 1, k, none⟩ = false := fun x k => cell_frozen ((Below.block x.h _ (by omega)).trans hn2) k
  have zb : ∀ (x : ExtW W), x.w.heap[w.heap.size + 1]? = some (box3 fun _ => 0) := fun x => (Below.block x.h _ (by omega)).trans hn2
  have ZF := Lib.hid zf
  have ZB := Lib.hid zb
  obtain ⟨x0, hx0⟩ := ExtW.of (Ext.refl W)
  have HV := Lib.hid hv
  clear hW hn hn2 hv zf zb
  conv => arg 5; rw [hx0]
  go_wp2_with fail
  refine (ExtW.call (HC.out _ (hE.trans x0.h))).mono ?_
  rintro e _ ⟨rfl, x1, rfl⟩
  have f0 := ZF.out x1 0
  have f1 := ZF.out x1 1
  have f2 := ZF.out x1 2
  by_cases hS : Valid S
  · rw [chk_t hS]
    have HS := Lib.hid hS
    have ht6 := hS.stock
    have hb3 := hS.boxes
    clear hS
    by_cases hlen : L.length = S.boxes.length
    · have HLEN := Lib.hid hlen
      have hne : ((L.length : Int) != (S.boxes.length : Int)) = false := by simp [hlen]
      have hL3 : L.length ≤ 3 := by omega
      clear hlen f0 f1 f2
      go_upto_region 7 with (fail)
      have hpn := heap_new x1.w (.cells #[.int .u64 0, .int .u64 0, .int .u64 0] 78)
      obtain ⟨W1, hW1⟩ : ∃ W1, W1 = x1.w.alloc (.cells #[.int .u64 0, .int .u64 0, .int .u64 0] 78) := ⟨_, rfl⟩
      have hE1 : Ext x1.w W1 := by rw [hW1]; exact Ext.alloc (Ext.refl _) _
      rw [← hW1] at hpn ⊢
      clear hW1
      go_wp2
      go_loopw [28] (fun i wr => ∃ k : Nat, k ≤ L.length ∧ i = .int .i64 k ∧ wr.heap[x1.w.heap.size]? = some (box3 (planTo L k)) ∧ Ext x1.w wr ∧ ∀ i (h : i < L.length), i < k → L[i].length = (S.boxes.getD i []).length ∧ Rises L[i] 0 ((S.stock.length : Int) - 1)) (fun i _ => L.length - (intOf i).toNat)
      case atStart => exact ⟨0, by omega, rfl, hpn, hE1, by first | trivial | (intro i h hi; omega)⟩
      case round =>
        obtain ⟨k, hk, rfl, hb, hEr, hr⟩ := hrel
        have HR := Lib.hid hr
        have HB := Lib.hid hb
        obtain ⟨y, rfl⟩ : ∃ y : ExtW W, wr = y.w := ExtW.of (x1.h.trans hEr)
        clear hr hpn hE1
        by_cases hlt : k < L.length
        · have hlt2 : k < S.boxes.length := by have := HLEN.out; omega
          obtain ⟨b1, o1, q, c, rfl, hc1, hq⟩ := (hL.ext (hE.trans y.h)).at k hlt
          obtain ⟨b2, o2, q', c', rfl, hc2, hq'⟩ := (h0.ext (hE.trans y.h)).at k hlt2
          have hgd := getD_of_lt S.boxes [] k hlt2
          have HP := parse07 q L[k] c S.stock.length y.w (hLr k hlt) ht6 hq
          have hk3 : k < 3 := by omega
          have hck := box3_cell hb k hk3
          have hfk := box3_frozen hb k
          have hlk := hLr k hlt
          have hbk := hM.box k hlt2
          have f0 := ZF.out y 0
          have f1 := ZF.out y 1
          have f2 := ZF.out y 2
          by_cases hri : Rises L[k] 0 ((S.stock.length : Int) - 1)
          · rw [parseV_t hri] at HP
            have HRI := Lib.hid hri
            have HP2 := Lib.hid HP
            have HGD := Lib.hid hgd
            by_cases hll : L[k].length = S.boxes[k].length
            · have HLL := Lib.hid hll
              have hll' : ((L[k].length : Int) != (S.boxes[k].length : Int)) = false := by simp [hll]
              clear HP hri hll hgd hb hLr
              go_wp2_with (go_at_call 72; refine HP2.out.mono ?_; rintro e w' ⟨rfl, rfl⟩)
              go_roundw
              case rel =>
                refine ⟨k + 1, by omega, by go_num, ?_, Ext.set hEr (Nat.le_refl _), fun i hi hik => ?_⟩
                · rw [planTo_succ, getD_of_lt L [] k hlt]
                  exact box3_set (w := y.w) HB.out hk3 0 _
                · by_cases e : i < k
                  · exact HR.out i hi e
                  · obtain rfl : i = k := by omega
                    exact ⟨by rw [HGD.out]; exact HLL.out, HRI.out⟩
              case measure => simp [intOf]; omega
            · have HLL := Lib.hid hll
              have hll' : ((L[k].length : Int) != (S.boxes[k].length : Int)) = true := by simp; omega
              clear HP hri hll hgd hb hLr
              go_wp2_with (go_at_call 72; refine HP2.out.mono ?_; rintro e w' ⟨rfl, rfl⟩)
              refine bodyPost_ret (v := .tuple #[.pointer none, pl3 (fun _ => 0), .int .i64 1]) ?_ rfl (Or.inr (Or.inl ⟨HS.out, fun h => HLL.out (by rw [← HGD.out]; exact (h.2 k hlt).1), rfl, by exact Ext.set (Ext.set (Ext.set (hE.trans y.h) (by omega)) (by omega)) (by omega)⟩))
              · have k3 := zero3 (ZB.out y)
                have e0 := box3_cell k3 0 (by decide)
                have e1 := box3_cell k3 1 (by decide)
                have e2 := box3_cell k3 2 (by decide)
                simp [results, Try.results79, go_sem, e0, e1, e2, pl3]

          · rw [parseV_f hri] at HP
            have HRI := Lib.hid hri
            have HP2 := Lib.hid HP
            clear HP hri hgd hb hLr
            go_wp2_with (go_at_call 72; refine HP2.out.mono ?_; rintro e w' ⟨rfl, rfl⟩)
            refine bodyPost_ret (v := .tuple #[.pointer none, pl3 (fun _ => 0), .int .i64 1]) ?_ rfl (Or.inr (Or.inl ⟨HS.out, fun h => HRI.out (h.2 k hlt).2, rfl, by exact Ext.set (Ext.set (Ext.set (hE.trans y.h) (by omega)) (by omega)) (by omega)⟩))
            · have k3 := zero3 (ZB.out y)
              have e0 := box3_cell k3 0 (by decide)
              have e1 := box3_cell k3 1 (by decide)
              have e2 := box3_cell k3 2 (by decide)
              simp [results, Try.results79, go_sem, e0, e1, e2, pl3]

        · obtain rfl : k = L.length := by omega
          have hOP := Lib.hid (open07s _ S y.w.drew (SwapV.mono _ _ _ _ ((hE.trans y.h).drew) HV.out) HS.out)
          have hPb : x1.w.heap.size < y.w.heap.size := (Array.getElem?_eq_some_iff.1 hb).1
          have hys := y.h.size
          clear hb hLr
          go_upto_region 15 with (fail)
          have t0 := box3_cell HB.out 0 (by decide)
          have t1 := box3_cell HB.out 1 (by decide)
          have t2 := box3_cell HB.out 2 (by decide)
          go_region_with (go_at_call 53; refine hOP.out.mono ?_; rintro e W5 ⟨b, rfl, hvis, hE5, hbs⟩; have u0 := hE5.cell (z0 y); have u1 := hE5.cell (z1 y); have u2 := hE5.cell (z2 y); have g3 := (Below.block hE5 _ hPb).trans HB.out; have s0 := box3_cell g3 0 (by decide); have s1 := box3_cell g3 1 (by decide); have s2 := box3_cell g3 2 (by decide); have g4 := (Below.block hE5 _ (by show w.heap.size + 1 < y.w.heap.size; omega)).trans (ZB.out y); have v0 := box3_frozen g4 0; have v1 := box3_frozen g4 1; have v2 := box3_frozen g4 2; have HG4 := Lib.hid g4; clear g3 g4)
          all_goals
            go_wp2
            refine bodyPost_ret (v := .tuple #[.pointer (some ⟨b, 0, none⟩), pl3 (planTo L L.length), .int .i64 0]) ?_ rfl (Or.inl ⟨HS.out, ⟨HLEN.out, fun i hi => HR.out i hi hi⟩, b, rfl, ?_, ?_⟩)
            · have k3 : (((W5.setCell ⟨w.heap.size + 1, 0, none⟩ (.int .u64 (planTo L L.length 0))).setCell ⟨w.heap.size + 1, 1, none⟩ (.int .u64 (planTo L L.length 1))).setCell ⟨w.heap.size + 1, 2, none⟩ (.int .u64 (planTo L L.length 2))).heap[w.heap.size + 1]? = some (box3 (planTo L L.length)) := heap_set (heap_set (heap_set HG4.out rfl) rfl) rfl
              have e0 := box3_cell k3 0 (by decide)
              have e1 := box3_cell k3 1 (by decide)
              have e2 := box3_cell k3 2 (by decide)
              simp [results, Try.results79, go_sem, e0, e1, e2, pl3]
            · have hb5 : y.w.heap.size ≤ b := hbs
              exact VisitB.at (VisitB.set (VisitB.set (VisitB.set (hvis w ((hE.trans y.h).drew) HV.out) (by omega) (by omega)) (by omega) (by omega)) (by omega) (by omega))
            · exact Ext.set (Ext.set (Ext.set ((hE.trans y.h).drew.trans hE5) (by omega)) (by omega)) (by omega)
    · have HLEN := Lib.hid hlen
      have hne : ((L.length : Int) != (S.boxes.length : Int)) = true := by simp; omega
      clear hlen
      go_wp2
      refine bodyPost_ret (v := .tuple #[.pointer none, pl3 (fun _ => 0), .int .i64 1]) ?_ rfl (Or.inr (Or.inl ⟨HS.out, fun h => HLEN.out h.1, rfl, by exact Ext.set (Ext.set (Ext.set (hE.trans x1.h) (by omega)) (by omega)) (by omega)⟩))
      · have k3 := zero3 (ZB.out x1)
        have e0 := box3_cell k3 0 (by decide)
        have e1 := box3_cell k3 1 (by decide)
        have e2 := box3_cell k3 2 (by decide)
        simp [results, Try.results79, go_sem, e0, e1, e2, pl3]
  · rw [chk_f hS]
    have HS := Lib.hid hS
    clear hS
    go_wp2
    refine bodyPost_ret (v := .tuple #[.pointer none, pl3 (fun _ => 0), .int .i64 70]) ?_ rfl (Or.inr (Or.inr ⟨HS.out, rfl, by exact Ext.set (Ext.set (Ext.set (hE.trans x1.h) (by omega)) (by omega)) (by omega)⟩))
    · have k3 := zero3 (ZB.out x1)
      have e0 := box3_cell k3 0 (by decide)
      have e1 := box3_cell k3 1 (by decide)
      have e2 := box3_cell k3 2 (by decide)
      simp [results, Try.results79, go_sem, e0, e1, e2, pl3]
end Go.Proofs.Ytpgjkmjejpfkmaa
