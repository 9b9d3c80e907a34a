/- The walk of Fair. -/
import Derived.Test.YtpgjkmjejpfkmaaW07l
import Derived.LoopIn
namespace Go.Proofs.Ytpgjkmjejpfkmaa
open Go.RowKit
attribute [local go_sem] Oper.semAt_some

/-- the least that a plan earns in the first box and in the first so many boxes -/
def leastTo (V : Visit) (q : Nat → Nat) : Nat → Int
  | 0 => earnTo V.S.earn (q 0) 0 V.S.earn.length
  | k + 1 => min (leastTo V q k) (earnTo V.S.earn (q k) k V.S.earn.length)
theorem leastTo_bd {V : Visit} (hO : VOK V) (q : Nat → Nat) : ∀ k, 0 ≤ leastTo V q k ∧ leastTo V q k ≤ 5994
  | 0 => earnTo_all hO _ _
  | k + 1 => by
    have h := leastTo_bd hO q k
    have := earnTo_all hO (q k) k
    unfold leastTo
    omega
def fairOf (V : Visit) (L : List (Nat → Nat)) : Int := L.foldl (fun m q => max m (leastTo V q V.S.boxes.length)) 0
theorem fairOf_snoc (V : Visit) (L : List (Nat → Nat)) (q : Nat → Nat) : fairOf V (L ++ [q]) = max (fairOf V L) (leastTo V q V.S.boxes.length) := by simp [fairOf]

/-- what Fair returns -/
noncomputable def fairV (S : Swap) : Value :=
  if bP (Valid S) = true then (if S.boxes.length = 0 then .tuple #[.int .i64 0, .int .i64 3] else .tuple #[.int .i64 (fairOf (openV S) (allP (openV S))), .int .i64 0]) else .tuple #[.int .i64 0, .int .i64 70]

set_option maxHeartbeats 1600000 in
theorem Fair07 (v : Value) (S : Swap) (w : World) (hv : SwapV w v S) (hM : Modest S) : Calls Try.prog 18 #[v] w (RetE (fairV S) w) := by
  have hC := fun w' (h : Ext w w') => Check07 v S w' (SwapV.mono _ _ _ _ h hv) hM
  obtain ⟨p0, c0, p1, c1, p2, c2, p3, c3, rfl, h0, h1, h2, h3⟩ := id hv
  have HC := Lib.hid hC
  clear hC
  by_cases hS : Valid S
  · have HS := Lib.hid hS
    have HC2 := Lib.hid (fun w' h => (HC.out w' h).mono (R' := RetE (.int .i64 0) w') (fun e w'' hh => by rw [← chk_t hS]; exact hh))
    clear HC hS
    refine calls_of_marks Try.func18 rfl ?_
    simp only [Try.ntmps18, List.size_toArray, List.length_cons, List.length_nil, Nat.reduceAdd, Nat.reduceSub, Array.replicate_succ, Array.replicate_zero, List.push_toArray, List.append_toArray, List.nil_append, List.cons_append]
    go_upto_region 1 with (fail)
    have hn := heap_new w (.cells #[.slice p0 S.boxes.length c0, .slice p1 S.stock.length c1, .slice p2 S.earn.length c2, .slice p3 S.keeps.length c3, .int .i64 S.changes] 26)
    obtain ⟨W, hW⟩ : ∃ W, W = w.alloc (.cells #[.slice p0 S.boxes.length c0, .slice p1 S.stock.length c1, .slice p2 S.earn.length c2, .slice p3 S.keeps.length c3, .int .i64 S.changes] 26) := ⟨_, rfl⟩
    have hE : Ext w W := by rw [hW]; exact Ext.alloc (Ext.refl w) _
    rw [← hW] at hn ⊢
    have q0 := ExtW.cell (v := .slice p0 S.boxes.length c0) (cell_of_heap hn 0)
    have q1 := ExtW.cell (v := .slice p1 S.stock.length c1) (cell_of_heap hn 1)
    have q2 := ExtW.cell (v := .slice p2 S.earn.length c2) (cell_of_heap hn 2)
    have q3 := ExtW.cell (v := .slice p3 S.keeps.length c3) (cell_of_heap hn 3)
    have q4 := ExtW.cell (v := .int .i64 S.changes) (cell_of_heap hn 4)
    obtain ⟨x0, hx0⟩ := ExtW.of (Ext.refl W)
    have HV := Lib.hid hv
    clear hW hn hv
    conv => arg 5; rw [hx0]
    go_wp2_with fail
    refine (ExtW.call (HC2.out _ (hE.trans x0.h))).mono ?_
    rintro e _ ⟨rfl, x1, rfl⟩
    by_cases hg : S.boxes.length = 0
    · have HFV := Lib.hid (show fairV S = .tuple #[.int .i64 0, .int .i64 3] from by simp [fairV, bP_t HS.out, hg])
      have hg' : ((S.boxes.length : Int) == 0) = true := by simp [hg]
      clear hg
      go_wp2
      exact noMarks_ret (v := .tuple #[.int .i64 0, .int .i64 3]) (results_tmp2 (t := 2) (u := 3) rfl _ _ _) (RetE.fin (hE.trans x1.h) HFV.out.symm)
    · have HG := Lib.hid hg
      have hg' : ((S.boxes.length : Int) == 0) = false := beq_eq_false_iff_ne.2 (by omega)
      have hlen := HS.out.boxes
      have hpos : 0 < S.boxes.length := by omega
      clear hg
      go_wp2_with fail
      refine (open07 _ S x1.w (SwapV.mono _ _ _ _ (hE.trans x1.h) HV.out) HS.out).mono ?_
      rintro e W2 ⟨b, rfl, hvis, hE2, -⟩
      go_wp2
      have hO := openV_ok HS.out
      obtain ⟨V, hV⟩ : ∃ V, V = openV S := ⟨_, rfl⟩
      have hVS : V.S = S := by rw [hV]; rfl
      rw [← hV] at hvis hO
      have hn1 := heap_new1 W2 (.cells #[.pointer (some ⟨b, 0, none⟩)] 80) (cellI 0)
      have hn2 := heap_new2 W2 (.cells #[.pointer (some ⟨b, 0, none⟩)] 80) (cellI 0)
      obtain ⟨W1, hW⟩ : ∃ W1, W1 = (W2.alloc (.cells #[.pointer (some ⟨b, 0, none⟩)] 80)).alloc (.cells #[.int .i64 0] 3) := ⟨_, rfl⟩
      have hE1 : Ext W2 W1 := by rw [hW]; exact Ext.alloc (Ext.alloc (Ext.refl W2) _) _
      have hs1 : W1.heap.size = W2.heap.size + 2 := by rw [hW]; simp
      have hgc := hE2.cell (q0 x1)
      unfold cellI at hn1 hn2
      rw [← hW] at hn1 hn2 ⊢
      have HVO := Lib.hid hV
      have HVS := Lib.hid hVS
      have hEW := hE.trans x1.h |>.trans hE2
      have hgb : w.heap.size < W2.heap.size := lt_of_cell hgc
      clear hW hV hVS q0 q1 q2 q3 q4 hE2 hE HV h0 h1 h2 h3
      obtain ⟨L, hL⟩ : ∃ L, L = allP V := ⟨_, rfl⟩
      refine range_all (fst := #[.pointer (some ⟨b, 0, none⟩)]) (gf := 55) (cap := #[]) rfl Try.call55 pl3 okP L W2.heap.size (by omega)
        (fun pre W => W.heap[W2.heap.size]? = some (.cells #[.pointer (some ⟨b, 0, none⟩)] 80) ∧ W.heap[W2.heap.size + 1]? = some (cellI (fairOf V pre)) ∧ Ext W2 W)
        ?hI ⟨hn1, hn2, hE1⟩ ?hiter ?hround ?hdone
      case hI =>
        rintro pre W W' ⟨h1, h2, h4⟩ hb
        exact ⟨(hb.block _ (by omega)).trans h1, (hb.block _ (by omega)).trans h2, Below.trans h4 (hb.mono (by omega))⟩
      case hiter =>
        intro l J hJ hY W hE hs hj
        rw [hL]
        exact each07 V hO b l W2.heap.size (W1.heap.size + 2) W2 hvis (Nat.le_refl _) J hJ hY W (hE1.trans hE) hs hj
      case hround =>
        rintro l pre x Wr hok rfl ⟨h1, h2, h4⟩ hs
        have hn := heap_new Wr (.cells #[.int .u64 (x 0), .int .u64 (x 1), .int .u64 (x 2)] 78)
        unfold pl3
        gi_wp2
        refine ⟨Ext.alloc (Ext.refl Wr) _, fun W4 hW4 => ?_⟩
        obtain ⟨W', hW'⟩ : ∃ W', W' = Wr.alloc (.cells #[.int .u64 (x 0), .int .u64 (x 1), .int .u64 (x 2)] 78) := ⟨_, rfl⟩
        have hEW' : Ext Wr W' := by rw [hW']; exact Ext.alloc (Ext.refl Wr) _
        rw [← hW'] at hn hW4
        have g1 := (hW4.block W2.heap.size (by omega)).trans ((Below.block hEW' _ (by omega)).trans h1)
        have g2 := (hW4.block (W2.heap.size + 1) (by omega)).trans ((Below.block hEW' _ (by omega)).trans h2)
        have g5 := (hW4.block Wr.heap.size (by omega)).trans hn
        have g4 : Ext W2 W4 := (h4.trans hEW').trans' (hW4.below (by omega))
        have hsz : Wr.heap.size < W4.heap.size := (Array.getElem?_eq_some_iff.1 g5).1
        have hbl : 0 < V.S.boxes.length := by rw [HVS.out]; exact hpos
        clear hW' hn h1 h2 h4 hEW' hW4 hn1 hn2 hE1
        have hsn := fairOf_snoc V pre x
        obtain ⟨m, hm⟩ : ∃ m, m = fairOf V pre := ⟨_, rfl⟩
        rw [← hm] at g2 hsn
        have HM := Lib.hid hm
        have HSN := Lib.hid hsn
        clear hm hsn
        have hc1 := ExtW.cell (v := .pointer (some ⟨b, 0, none⟩)) (cell_of_heap g1 0)
        have hc50 := ExtW.cell (box3_cell (g := x) g5 0 (by decide))
        have hc51 := ExtW.cell (box3_cell (g := x) g5 1 (by decide))
        have hc52 := ExtW.cell (box3_cell (g := x) g5 2 (by decide))
        have hcb := ExtW.cell (g4.cell hgc)
        have rm := ExtW.cell (v := .int .i64 m) (cell_of_heap g2 0)
        have hSu : ∀ k, k < V.S.boxes.length → ∀ y : ExtW W4, Calls Try.prog 56 #[.pointer (some ⟨b, 0, none⟩), pl3 x, .int .i64 k] y.w (RetE (.int .i64 (earnTo V.S.earn (x k) k V.S.earn.length)) y.w) :=
          fun k hk y => earns07 x k b V y.w (hvis.ext (g4.trans y.h)) hO hk (hok k (by have := hO.boxes; omega))
        have HSU := Lib.hid hSu
        have HVL := Lib.hid (show V.S.boxes.length = S.boxes.length from by rw [HVS.out])
        unfold pl3 at HSU
        clear hSu
        obtain ⟨x0, hx0⟩ := ExtW.of (Ext.refl W4)
        conv => arg 7; rw [hx0]
        gi_wp2_with fail
        refine ⟨trivial, rfl, ?_⟩
        refine (CallsIn.inRound _ (callsIn_wide.2 (ExtW.call (HSU.out 0 hbl x0)))).mono ?_
        rintro e _ ⟨rfl, y1, rfl⟩
        gi_wp2
        gi_loopw [8, 30] (fun a i wr => ∃ k : Nat, k ≤ S.boxes.length ∧ i = .int .i64 k ∧ a = .int .i64 (leastTo V x k) ∧ ∃ y : ExtW W4, wr = y.w) (fun _ i _ => S.boxes.length - (intOf i).toNat)
        case atStart => exact ⟨0, by omega, rfl, rfl, y1, rfl⟩
        case round =>
          obtain ⟨k, hk, rfl, rfl, y2, rfl⟩ := hrel
          obtain ⟨lb1, lb2⟩ := leastTo_bd hO x k
          by_cases hlt : k < S.boxes.length
          · have hC := HSU.out k (by rw [HVL.out]; exact hlt) y2
            obtain ⟨eb1, eb2⟩ := earnTo_all hO (x k) k
            have HS3 : Hid (leastTo V x (k + 1) = min (leastTo V x k) (earnTo V.S.earn (x k) k V.S.earn.length)) := rfl
            obtain ⟨a1, ha1⟩ : ∃ a1, a1 = leastTo V x k := ⟨_, rfl⟩
            obtain ⟨a2, ha2⟩ : ∃ a2, a2 = earnTo V.S.earn (x k) k V.S.earn.length := ⟨_, rfl⟩
            rw [← ha1] at lb1 lb2 HS3 ⊢
            rw [← ha2] at eb1 eb2 HS3 hC
            have HC3 := Lib.hid hC
            clear ha1 ha2 hC
            gi_wp2_with fail
            refine ⟨trivial, rfl, ?_⟩
            refine (CallsIn.inRound _ (callsIn_wide.2 (ExtW.call HC3.out))).mono ?_
            rintro e _ ⟨rfl, y3, rfl⟩
            gi_wp2
            go_roundw
            case rel => exact ⟨k + 1, by omega, by go_num, congrArg (Value.int .i64) (by rw [HS3.out]; split <;> omega), y3, rfl⟩
            case measure => simp [intOf]; omega
          · obtain rfl : k = S.boxes.length := by omega
            have hq2 := (Below.block y2.h (W2.heap.size + 1) (lt_of_cell (cell_of_heap g2 0))).trans g2
            have hq1 := (Below.block y2.h W2.heap.size (by omega)).trans g1
            have hf := cell_frozen hq2 0
            obtain ⟨a1, ha1⟩ : ∃ a1, a1 = leastTo V x S.boxes.length := ⟨_, rfl⟩
            rw [← ha1]
            have HA1 := Lib.hid ha1
            clear ha1
            by_cases hma : m < a1
            · have HMA := Lib.hid hma
              gi_wp2
              refine and_dep ?_ (fun hx => ⟨?_, ?_, by first | exact hx.ext g4 (Nat.le_refl _) | exact hx.ext (g4.trans x0.h) (Nat.le_refl _)⟩)
              · first
                  | exact ExtI.set (y2.h.toI _ _) (by omega) (by omega)
                  | (rw [← hx0]; exact ExtI.set (y2.h.toI _ _) (by omega) (by omega))
              · exact heap_set_ne (by omega) hq1
              · rw [HSN.out, HVL.out, ← HA1.out, show max m a1 = a1 from by have := HMA.out; omega]
                exact heap_set hq2 rfl
            · have HMA := Lib.hid hma
              gi_wp2
              refine and_dep ?_ (fun hx => ⟨?_, ?_, by first | exact hx.ext g4 (Nat.le_refl _) | exact hx.ext (g4.trans x0.h) (Nat.le_refl _)⟩)
              · first
                  | exact ExtI.set (y2.h.toI _ _) (by omega) (by omega)
                  | (rw [← hx0]; exact ExtI.set (y2.h.toI _ _) (by omega) (by omega))
              · exact heap_set_ne (by omega) hq1
              · rw [HSN.out, HVL.out, ← HA1.out, show max m a1 = m from by have := HMA.out; omega]
                exact heap_set hq2 rfl
      case hdone =>
        rintro W ⟨h1, h2, h4⟩ hd
        obtain ⟨m, hm⟩ : ∃ m, m = fairOf V L := ⟨_, rfl⟩
        rw [← hm] at h2
        have HM := Lib.hid hm
        clear hm
        have hc2 := cell_of_heap h2 0
        simp at hc2
        have HFV := Lib.hid (show fairV S = .tuple #[.int .i64 m, .int .i64 0] from by
          simp only [fairV, bP_t HS.out, if_true, if_neg HG.out, ← HVO.out, ← hL, ← HM.out])
        go_wp2
        refine marks_ret (v := .tuple #[.int .i64 m, .int .i64 0]) (hs1 ▸ hd) (fun _ _ => results_tmp2 (t := 2) (u := 3) rfl _ _ _) (fun W' hW' => RetE.fin ((hEW.trans h4).trans' (hW'.below ?_)) HFV.out.symm)
        have := hEW.size
        omega
  · rw [show fairV S = .tuple #[.int .i64 0, .int .i64 70] from by simp [fairV, bP_f hS]]
    have HC2 := Lib.hid (fun w' h => (HC.out w' h).mono (R' := RetE (.int .i64 70) w') (fun e w'' hh => by rw [← chk_f hS]; exact hh))
    clear HC hS
    refine calls_of_marks Try.func18 rfl ?_
    simp only [Try.ntmps18, List.size_toArray, List.length_cons, List.length_nil, Nat.reduceAdd, Nat.reduceSub, Array.replicate_succ, Array.replicate_zero, List.push_toArray, List.append_toArray, List.nil_append, List.cons_append]
    go_wp2_with fail
    refine (HC2.out _ (Ext.alloc (Ext.refl w) _)).mono ?_
    rintro e W2 ⟨rfl, hE2⟩
    go_wp2
    exact noMarks_ret (v := .tuple #[.int .i64 0, .int .i64 70]) (results_tmp2 (t := 2) (u := 3) rfl _ _ _) (RetE.fin ((Ext.alloc (Ext.refl w) _).trans hE2) rfl)
end Go.Proofs.Ytpgjkmjejpfkmaa
