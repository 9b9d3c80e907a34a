/- The walk of Always. -/
import Derived.Test.YtpgjkmjejpfkmaaA07a
import Derived.Test.YtpgjkmjejpfkmaaC07d
namespace Go.Proofs.Ytpgjkmjejpfkmaa
open Go.RowKit
attribute [local go_sem] Oper.semAt_some

/-- what all best plans have in common -/
noncomputable def alwStep (V : Visit) (m : Int) (c q : Nat → Nat) : Nat → Nat := fun j => if sumTo V q V.S.boxes.length = m then c j &&& q j else c j
noncomputable def alwOf (V : Visit) (m : Int) (c : Nat → Nat) (L : List (Nat → Nat)) : Nat → Nat := L.foldl (alwStep V m) c
theorem alwOf_snoc (V : Visit) (m : Int) (c : Nat → Nat) (L : List (Nat → Nat)) (q : Nat → Nat) : alwOf V m c (L ++ [q]) = alwStep V m (alwOf V m c L) q := by simp [alwOf]
theorem and_le64 {a : Nat} (b : Nat) (h : a < 64) : a &&& b < 64 := Nat.lt_of_le_of_lt Nat.and_le_left h
theorem alwStep_lt {V : Visit} {m : Int} {c q : Nat → Nat} (h : ∀ j, c j < 64) (j : Nat) : alwStep V m c q j < 64 := by
  unfold alwStep
  split
  · exact and_le64 _ (h j)
  · exact h j
theorem alwOf_lt {V : Visit} {m : Int} {c : Nat → Nat} (h : ∀ j, c j < 64) (L : List (Nat → Nat)) : ∀ j, alwOf V m c L j < 64 := by
  induction L using snocInd with
  | h0 => exact h
  | hs l x ih => rw [alwOf_snoc]; exact fun j => alwStep_lt ih j

/-- the list of keeps -/
def alwTo (f : Nat → Nat) (k : Nat) : List (Int × Int) := (List.range k).flatMap fun b => (lstOf (f b)).map fun t => ((b : Int), t)
theorem alwTo_succ (f : Nat → Nat) (k : Nat) : alwTo f (k + 1) = alwTo f k ++ (lstOf (f k)).map fun t => ((k : Int), t) := by
  unfold alwTo
  rw [List.range_succ, List.flatMap_append]
  simp
theorem alwTo_len (f : Nat → Nat) : ∀ k, (alwTo f k).length ≤ 6 * k
  | 0 => by simp [alwTo]
  | k + 1 => by
    have h1 := alwTo_len f k
    have h2 := lstTo_len (f k) 6
    rw [alwTo_succ, List.length_append, List.length_map]
    unfold lstOf
    omega
theorem pairVs_append (a b : List (Int × Int)) : pairVs (a ++ b) = pairVs a ++ pairVs b := by simp [pairVs]

/-- what Always finds -/
noncomputable def alwF (S : Swap) : Nat → Nat := alwOf (openV S) (bestOf (openV S) (allP (openV S))).1 (bestOf (openV S) (allP (openV S))).2 (allP (openV S))
noncomputable def alwL (S : Swap) : List (Int × Int) := alwTo (alwF S) S.boxes.length
theorem own_pairs {w : World} {B : Nat} {v : Value} {l : List (Int × Int)} (h : w.ownsRow B 45 2 v l.length (pairVs l)) : ∃ p c, v = .slice p l.length c ∧ PairsAt w p l := by
  rcases h.2 with ⟨hv, h0⟩ | ⟨b, cap, cur, hv, hb, hg, hc, hm, hs, hx⟩
  · have : l = [] := List.length_eq_zero_iff.1 h0
    subst this
    exact ⟨none, 0, hv, PairsAt.nil _ _⟩
  · refine ⟨_, cap, hv, fun i hi => ⟨b, 0, rfl, ?_, ?_⟩⟩
    · obtain ⟨e0, -⟩ := pairVs_at l i hi
      rw [cell_of_heap hg, Nat.zero_add]
      rw [← hx, List.getElem?_take, if_pos (by omega)] at e0
      simpa using e0
    · obtain ⟨-, e1⟩ := pairVs_at l i hi
      rw [cell_of_heap hg, Nat.zero_add]
      rw [← hx, List.getElem?_take, if_pos (by omega)] at e1
      simpa using e1

def AlwPost (S : Swap) (w : World) (e : Ending) (w' : World) : Prop :=
  (Valid S ∧ ∃ p c, e = .returned (.tuple #[.slice p (alwL S).length c, .int .i64 0]) ∧ PairsAt w' p (alwL S) ∧ Ext w w') ∨
  (¬Valid S ∧ e = .returned (.tuple #[.slice none 0 0, .int .i64 70]) ∧ Ext w w')

/-- a set of the first boxes turned -/
def mixP (k : Nat) (f g : Nat → Nat) : Nat → Nat := fun j => if j < k then f j else g j

theorem mix_upd {k s : Nat} {c' c : Nat → Nat} (h : c' k = s) : mixP (k + 1) c' c = upd (mixP k c' c) k s := by
  funext j
  unfold mixP upd
  by_cases hj : j = k
  · subst hj
    rw [if_pos (by omega), if_pos rfl, h]
  · rw [if_neg hj]
    show _ = if j < k then c' j else c j
    by_cases hjk : j < k
    · rw [if_pos (by omega), if_pos hjk]
    · rw [if_neg (by omega), if_neg hjk]

set_option maxRecDepth 20000 in
set_option maxHeartbeats 3200000 in
theorem Always07 (v : Value) (S : Swap) (w : World) (hv : SwapV w v S) (hM : Modest S) : Calls Try.prog 44 #[v] w (AlwPost S w) := by
  have hC := fun w' (h : Ext w w') => Check07 v S w' (SwapV.mono _ _ _ _ h hv) hM
  obtain ⟨p0, c0, p1, c1, p2, c2, p3, c3, rfl, h0, h1, h2, h3⟩ := id hv
  have HC := Lib.hid hC
  clear hC h0 h1 h2 h3
  by_cases hS : Valid S
  · have HS := Lib.hid hS
    have hb3 := hS.boxes
    have HC2 := Lib.hid (fun w' h => (HC.out w' h).mono (R' := RetE (.int .i64 0) w') (fun e w'' hh => by rw [← chk_t hS]; exact hh))
    clear HC hS
    refine calls_of_marks Try.func44 rfl ?_
    simp only [Try.ntmps44, List.size_toArray, List.length_cons, List.length_nil, Nat.reduceAdd, Nat.reduceSub, Array.replicate_succ, Array.replicate_zero, List.push_toArray, List.append_toArray, List.nil_append, List.cons_append]
    go_upto_region 1 with (fail)
    have hn := heap_new w (.cells #[.slice p0 S.boxes.length c0, .slice p1 S.stock.length c1, .slice p2 S.earn.length c2, .slice p3 S.keeps.length c3, .int .i64 S.changes] 26)
    obtain ⟨W, hW⟩ : ∃ W, W = w.alloc (.cells #[.slice p0 S.boxes.length c0, .slice p1 S.stock.length c1, .slice p2 S.earn.length c2, .slice p3 S.keeps.length c3, .int .i64 S.changes] 26) := ⟨_, rfl⟩
    have hE : Ext w W := by rw [hW]; exact Ext.alloc (Ext.refl w) _
    rw [← hW] at hn ⊢
    have q0 := ExtW.cell (v := .slice p0 S.boxes.length c0) (cell_of_heap hn 0)
    have q1 := ExtW.cell (v := .slice p1 S.stock.length c1) (cell_of_heap hn 1)
    have q2 := ExtW.cell (v := .slice p2 S.earn.length c2) (cell_of_heap hn 2)
    have q3 := ExtW.cell (v := .slice p3 S.keeps.length c3) (cell_of_heap hn 3)
    have q4 := ExtW.cell (v := .int .i64 S.changes) (cell_of_heap hn 4)
    obtain ⟨x0, hx0⟩ := ExtW.of (Ext.refl W)
    have HV := Lib.hid hv
    clear hW hn hv
    conv => arg 5; rw [hx0]
    clear hx0
    go_wp2_with fail
    refine (ExtW.call (HC2.out _ (hE.trans x0.h))).mono ?_
    rintro e _ ⟨rfl, x1, rfl⟩
    go_wp2_with fail
    refine (open07 _ S x1.w (SwapV.mono _ _ _ _ (hE.trans x1.h) HV.out) HS.out).mono ?_
    rintro e W2 ⟨b, rfl, hvis, hE2, -⟩
    have hgc := hE2.cell (q0 x1)
    have hEW := hE.trans x1.h |>.trans hE2
    have hgb : w.heap.size < W2.heap.size := lt_of_cell hgc
    clear q0 q1 q2 q3 q4 hE2 hE HV HC2
    go_upto_region 5 with (fail)
    have hn1 := heap_new W2 (.cells #[.pointer (some ⟨b, 0, none⟩)] 80)
    obtain ⟨W3, hW3⟩ : ∃ W3, W3 = W2.alloc (.cells #[.pointer (some ⟨b, 0, none⟩)] 80) := ⟨_, rfl⟩
    have hE3 : Ext W2 W3 := by rw [hW3]; exact Ext.alloc (Ext.refl W2) _
    have hs3 : W3.heap.size = W2.heap.size + 1 := by rw [hW3]; exact size_alloc _ _
    rw [← hW3] at hn1 ⊢
    have hc5 := cell_of_heap hn1 0
    simp at hc5
    clear hW3
    have hO := openV_ok HS.out
    have hB := best07 (openV S) hO b W3 (hvis.ext hE3)
    obtain ⟨V, hV⟩ : ∃ V, V = openV S := ⟨_, rfl⟩
    have hVS : V.S = S := by rw [hV]; rfl
    obtain ⟨mp, hmp⟩ : ∃ mp, mp = bestOf (openV S) (plansL (openV S) (openV S).S.boxes.length (fun _ => 0) 0) := ⟨_, rfl⟩
    have hok : ∀ k, mp.2 k < 64 := by
      rw [hmp]
      exact best_lt HS.out
    rw [← hmp] at hB
    obtain ⟨m, f⟩ := mp
    unfold pl3 at hB
    have HMP := Lib.hid hmp
    have HOK := Lib.hid hok
    rw [← hV] at hvis hO
    clear hmp hok
    go_wp2_with fail
    refine hB.mono ?_
    rintro e W4 ⟨rfl, hE4⟩
    clear hB
    have hgc4 := (hE3.trans hE4).cell hgc
    replace hc5 := hE4.cell hc5
    have hlt2 : W2.heap.size < W4.heap.size := lt_of_cell hc5
    have hn5 := (Below.block hE4 _ (by omega)).trans hn1
    have hs4 := hE4.size
    have hvis4 := hvis.ext (hE3.trans hE4)
    have hEW4 := hEW.trans (hE3.trans hE4)
    clear hgc hEW hE3 hE4 hn1 hs3
    go_wp2
    have hn6 := heap_new1 W4 (cellI m) (.cells #[.int .u64 (f 0), .int .u64 (f 1), .int .u64 (f 2)] 78)
    have hn7 := heap_new2 W4 (cellI m) (.cells #[.int .u64 (f 0), .int .u64 (f 1), .int .u64 (f 2)] 78)
    obtain ⟨W5, hW5⟩ : ∃ W5, W5 = (W4.alloc (.cells #[.int .i64 m] 3)).alloc (.cells #[.int .u64 (f 0), .int .u64 (f 1), .int .u64 (f 2)] 78) := ⟨_, rfl⟩
    have hE5 : Ext W4 W5 := by rw [hW5]; exact Ext.alloc (Ext.alloc (Ext.refl W4) _) _
    have hs5 : W5.heap.size = W4.heap.size + 2 := by rw [hW5]; simp
    unfold cellI at hn6 hn7
    rw [← hW5] at hn6 hn7 ⊢
    have hgc5 := hE5.cell hgc4
    have hgb4 := lt_of_cell hgc4
    have g50 := (Below.block hE5 _ (by omega)).trans hn5
    clear hW5 hn5 hc5
    obtain ⟨L, hL⟩ : ∃ L, L = allP V := ⟨_, rfl⟩
    refine range_all (fst := #[.pointer (some ⟨b, 0, none⟩)]) (gf := 55) (cap := #[]) rfl Try.call55 pl3 okP L W4.heap.size (by omega)
      (fun pre W => W.heap[W2.heap.size]? = some (.cells #[.pointer (some ⟨b, 0, none⟩)] 80) ∧ W.heap[W4.heap.size]? = some (cellI m) ∧ W.heap[W4.heap.size + 1]? = some (box3 (alwOf V m f pre)) ∧ Ext W4 W)
      ?hI ⟨g50, hn6, hn7, hE5⟩ ?hiter ?hround ?hdone
    case hI =>
      rintro pre W W' ⟨h1, h2, h3, h4⟩ hb
      exact ⟨(hb.block _ (by omega)).trans h1, (hb.block _ (by omega)).trans h2, (hb.block _ (by omega)).trans h3, Below.trans h4 (hb.mono (by omega))⟩
    case hiter =>
      intro l J hJ hY W hE hs hj
      rw [hL]
      exact each07 V hO b l W4.heap.size (W5.heap.size + 2) W4 hvis4 (Nat.le_refl _) J hJ hY W (hE5.trans hE) hs hj
    case hround =>
      rintro l pre x Wr hokx rfl ⟨h1, h2, h3, h4⟩ hs
      have hn := heap_new Wr (.cells #[.int .u64 (x 0), .int .u64 (x 1), .int .u64 (x 2)] 78)
      unfold pl3
      gi_wp2
      refine ⟨Ext.alloc (Ext.refl Wr) _, fun W6 hW6 => ?_⟩
      obtain ⟨W', hW'⟩ : ∃ W', W' = Wr.alloc (.cells #[.int .u64 (x 0), .int .u64 (x 1), .int .u64 (x 2)] 78) := ⟨_, rfl⟩
      have hEW' : Ext Wr W' := by rw [hW']; exact Ext.alloc (Ext.refl Wr) _
      rw [← hW'] at hn hW6
      have g1 := (hW6.block W2.heap.size (by omega)).trans ((Below.block hEW' _ (by omega)).trans h1)
      have g2 := (hW6.block W4.heap.size (by omega)).trans ((Below.block hEW' _ (by omega)).trans h2)
      have g3 := (hW6.block (W4.heap.size + 1) (by omega)).trans ((Below.block hEW' _ (by omega)).trans h3)
      have g5 := (hW6.block Wr.heap.size (by omega)).trans hn
      have g4 : Ext W4 W6 := (h4.trans hEW').trans' (hW6.below (by omega))
      have hsz : Wr.heap.size < W6.heap.size := (Array.getElem?_eq_some_iff.1 g5).1
      clear hW' hn h1 h2 h3 h4 hEW' hW6 hn6 hn7 hE5 g50
      have hsn := alwOf_snoc V m f pre x
      obtain ⟨c, hc⟩ : ∃ c, c = alwOf V m f pre := ⟨_, rfl⟩
      have hc64 : ∀ j, c j < 64 := by rw [hc]; exact alwOf_lt HOK.out pre
      rw [← hc] at g3 hsn
      obtain ⟨c', hc'⟩ : ∃ c', c' = alwStep V m c x := ⟨_, rfl⟩
      rw [← hc'] at hsn
      have HSN := Lib.hid hsn
      have HC64 := Lib.hid hc64
      clear hc hsn hc64
      have hSu := fun w' (h : Ext W4 w') => sum07 x b V w' (hvis4.ext h) hO hokx
      have hst : ∀ j, c' j = if sumTo V x V.S.boxes.length = m then c j &&& x j else c j := fun j => by rw [hc']; rfl
      obtain ⟨n, hn⟩ : ∃ n, n = sumTo V x V.S.boxes.length := ⟨_, rfl⟩
      rw [← hn] at hSu hst
      have HSU := Lib.hid hSu
      have HST := Lib.hid hst
      unfold pl3 at HSU
      clear hc' hn hSu hst
      have hl3 : W4.heap.size + 1 < W6.heap.size := (Array.getElem?_eq_some_iff.1 g3).1
      have hc3 : mixP 0 c' c = c := by funext j; simp [mixP]
      rw [← hc3] at g3
      gi_wp2
      gi_loopw [29] (fun i wr => ∃ k : Nat, k ≤ 3 ∧ i = .int .i64 k ∧ wr.heap[W4.heap.size + 1]? = some (box3 (mixP k c' c)) ∧ ExtI (W4.heap.size + 1) (W4.heap.size + 2) W6 wr) (fun i _ => 3 - (intOf i).toNat)
      case atStart => exact ⟨0, by omega, rfl, g3, ExtI.refl _ _ _⟩
      case round =>
        obtain ⟨k, hk, rfl, hbx, hx⟩ := hrel
        have hE4r : Ext W4 wr := ExtI.ext g4 hx (by omega)
        have k1 := (hx.block W2.heap.size (by omega) (by omega)).trans g1
        have k2 := (hx.block W4.heap.size (by omega) (by omega)).trans g2
        have k5 := (hx.block Wr.heap.size (by omega) (by omega)).trans g5
        have hszr := hx.size
        by_cases hlt : k < 3
        · have r5 := ExtW.cell (v := .pointer (some ⟨b, 0, none⟩)) (cell_of_heap k1 0)
          have r6 := ExtW.cell (v := .int .i64 m) (cell_of_heap k2 0)
          have r80 := ExtW.cell (box3_cell (g := x) k5 0 (by decide))
          have r81 := ExtW.cell (box3_cell (g := x) k5 1 (by decide))
          have r82 := ExtW.cell (box3_cell (g := x) k5 2 (by decide))
          have r8k := ExtW.cell (box3_cell (g := x) k5 k hlt)
          have r7k := ExtW.cell (box3_cell hbx k hlt)
          have hmk : mixP k c' c k = c k := by simp [mixP]
          rw [hmk] at r7k
          have hck := HC64.out k
          have hxk := hokx k hlt
          have hand : bits .and .u64 ((c k : Nat) : Int) ((x k : Nat) : Int) = ((c k &&& x k : Nat) : Int) := bits_and_u64_nat _ _ (by omega) (by omega)
          have HX := Lib.hid hx
          have HBX := Lib.hid hbx
          have HE4R := Lib.hid hE4r
          have HK5 := Lib.hid k5
          clear hx hbx hE4r k1 k2 k5 hmk g1 g2 g3 g5
          gi_wp2
          refine wpIn_region_round (w0 := wr) (x := ⟨wr, Ext.refl _⟩) (by kernel_rfl) (by kernel_rfl) (by kernel_rfl) ?_
          repeat (go_big_quiet_step ((go_at_call 59; exact ExtW.call (HSU.out _ (HE4R.out.trans (ExtW.h _))))))
          refine wpQuiet_nil ?_
          rintro _ ⟨y1, rfl⟩
          have hbx1 := (Below.block y1.h _ (by omega)).trans HBX.out
          have f7 := box3_frozen hbx1 k
          have u7 := r7k y1
          have u8 := r8k y1
          have HB1 := Lib.hid hbx1
          clear hbx1 r7k r8k r5 r6 r80 r81 r82
          by_cases hnm : n = m
          · have hnm' : (n == m) = true := by simpa using hnm
            have HNM := Lib.hid hnm
            clear hnm
            gi_wp2
            have hmo : Try.prog.follows .mixedOrders = true := by kernel_rfl
            gi_region_with_o (fail)
            all_goals gi_wp2
            all_goals
              have hb2 : (y1.w.setCell ⟨W4.heap.size + 1, k, none⟩ (.int .u64 ((c k &&& x k : Nat) : Int))).heap[W4.heap.size + 1]? = some (box3 (upd (mixP k c' c) k (c k &&& x k))) := box3_set HB1.out hlt 0 _
              have hmix : mixP (k + 1) c' c = upd (mixP k c' c) k (c k &&& x k) := mix_upd (by rw [HST.out, if_pos HNM.out])
              refine ⟨⟨k + 1, by omega, by go_num, ?_, ?_⟩, by simp [intOf]; omega⟩
              · rw [hmix]
                exact hb2
              · exact ExtI.drew (ExtI.set (HX.out.trans (y1.h.toI _ _)) (by omega) (by omega))
          · have hnm' : (n == m) = false := by simpa using hnm
            have HNM := Lib.hid hnm
            clear hnm
            gi_wp2
            go_roundw
            case rel =>
              refine ⟨k + 1, by omega, by go_num, ?_, HX.out.trans (y1.h.toI _ _)⟩
              have : mixP (k + 1) c' c = mixP k c' c := by
                funext j
                unfold mixP
                by_cases hj : j < k
                · rw [if_pos hj, if_pos (by omega)]
                · rw [if_neg hj]
                  split
                  · rw [HST.out, if_neg HNM.out]
                  · rfl
              rw [this]
              exact HB1.out
            case measure => simp [intOf]; omega
        · obtain rfl : k = 3 := by omega
          have hbox : box3 (mixP 3 c' c) = box3 c' := rfl
          rw [hbox, ← HSN.out] at hbx
          clear g1 g2 g3 g5
          gi_wp2
          exact ⟨⟨hx.os, hx.tape, hx.output, hx.size, fun k hk hb => hx.block k hk (by omega)⟩, k1, k2, hbx, hE4r⟩
    case hdone =>
      rintro W ⟨h1, h2, h3, h4⟩ hd
      clear hn6 hn7 h1 h2
      obtain ⟨c, hc⟩ : ∃ c, c = alwOf V m f L := ⟨_, rfl⟩
      have hc64 : ∀ j, c j < 64 := by rw [hc]; exact alwOf_lt HOK.out L
      have hcF : c = alwF S := by
        rw [hc, hL, hV]
        have h := HMP.out
        unfold alwF
        rw [show bestOf (openV S) (allP (openV S)) = (m, f) from h.symm]
      rw [← hc] at h3
      have HCF := Lib.hid hcF
      have HC64 := Lib.hid hc64
      have hgcW := ExtW.cell (h4.cell hgc4)
      have HEW := Lib.hid (hEW4.trans h4)
      have r7 := Lib.hid (fun (y : ExtW W) k (hk : k < 3) => y.h.cell (box3_cell h3 k hk))
      have HD := Lib.hid (fun (y : ExtW W) => (Below.block y.h _ (Array.getElem?_eq_some_iff.1 hd).1).trans hd)
      have hltC : W5.heap.size < W.heap.size := (Array.getElem?_eq_some_iff.1 hd).1
      have hlt4 : W4.heap.size + 1 < W.heap.size := (Array.getElem?_eq_some_iff.1 h3).1
      obtain ⟨i2, hi2, hz2, hy2, hb2⟩ := info_parts info_c
      obtain ⟨y0, hy0⟩ := ExtW.of (Ext.refl W)
      have hs45 : W4.heap.size ≤ W5.heap.size := by omega
      clear hc hcF hc64 h3 h4 hd hE5 g50 hgc5 hs5
      conv => arg 5; rw [hy0]
      clear hy0
      go_wp2
      go_loopw [10, 49] (fun u i wr => ∃ k : Nat, k ≤ S.boxes.length ∧ i = .int .i64 k ∧ ∃ y : ExtW W, wr = y.w ∧ y.w.ownsRow W.heap.size 45 2 u (alwTo c k).length (pairVs (alwTo c k))) (fun _ i _ => S.boxes.length - (intOf i).toNat)
      case atStart => exact ⟨0, by omega, rfl, y0, rfl, World.ownsRow_nil _ _ _ _⟩
      case round =>
        obtain ⟨k, hk, rfl, y, rfl, hown⟩ := hrel
        have hal := alwTo_len c k
        by_cases hlt : k < S.boxes.length
        · have s7 := r7.out y k (by omega)
          have HO := Lib.hid hown
          have HSC := Lib.hid (alwTo_succ c k)
          have hszy := y.h.size
          clear hown
          go_wp2_with fail
          refine (list07 (c k) y.w (HC64.out k)).mono ?_
          rintro e w2 ⟨v2, rfl, hi3, hE2⟩
          obtain ⟨p2', c2', rfl, -⟩ := ownsRow_ints hi3
          obtain ⟨l, hl⟩ : ∃ l, l = lstOf (c k) := ⟨_, rfl⟩
          have hl6 : l.length ≤ 6 := by rw [hl]; exact lstTo_len _ _
          rw [← hl] at hi3 HSC ⊢
          obtain ⟨A, hA⟩ : ∃ A, A = alwTo c k := ⟨_, rfl⟩
          rw [← hA] at HO HSC hal
          have HO2 := Lib.hid (ownsRow_ext HO.out hE2)
          have hne : (Value.slice p2' l.length c2').ownBlock = none ∨ ∀ u, (y.w.ownsRow W.heap.size 45 2 u A.length (pairVs A)) → (Value.slice p2' l.length c2').ownBlock ≠ u.ownBlock := by
            cases hob : (Value.slice p2' l.length c2').ownBlock with
            | none => exact Or.inl rfl
            | some bb =>
              refine Or.inr fun u hu he => ?_
              have h5 := (hi3.lt bb hob).1
              have h6 := (hu.lt bb he.symm).2
              omega
          have hne2 : (Value.slice p2' l.length c2').ownBlock = none ∨ (Value.slice p2' l.length c2').ownBlock ≠ _ := hne.imp id (fun h => h _ HO.out)
          obtain ⟨y2, rfl⟩ := ExtW.of (y.h.trans hE2)
          have HI3 := Lib.hid (ownsRow_base hi3 hszy)
          have HNE := Lib.hid hne2
          clear hne hne2 hi3 hE2 hl hA HO
          clear s7
          go_wp2
          go_loopw [10, 57] (fun u i wr => ∃ j : Nat, j ≤ l.length ∧ i = .int .i64 j ∧ ∃ y : ExtW W, wr = y.w ∧ y.w.ownsRow W.heap.size 45 2 u (A ++ (l.take j).map fun t => ((k : Int), t)).length (pairVs (A ++ (l.take j).map fun t => ((k : Int), t))) ∧
              y.w.ownsRow W.heap.size 3 1 (.slice p2' l.length c2') l.length (intVs l) ∧ ((Value.slice p2' l.length c2').ownBlock = none ∨ (Value.slice p2' l.length c2').ownBlock ≠ u.ownBlock)) (fun _ i _ => l.length - (intOf i).toNat)
          case atStart => exact ⟨0, by omega, rfl, y2, rfl, by simpa using HO2.out, HI3.out, HNE.out⟩
          case round =>
            clear y2 HO2 HI3 HNE
            obtain ⟨j, hj, rfl, y2, rfl, hown, hi3, hne⟩ := hrel
            obtain ⟨B, hB⟩ : ∃ B, B = A ++ (l.take j).map fun t => ((k : Int), t) := ⟨_, rfl⟩
            have hBl : B.length ≤ 100 := by
              rw [hB, List.length_append, List.length_map, List.length_take]
              omega
            by_cases hjl : j < l.length
            · have hBs : B ++ [((k : Int), l[j])] = A ++ (l.take (j + 1)).map fun t => ((k : Int), t) := by
                rw [hB, List.take_succ_eq_append_getElem hjl, List.map_append, List.append_assoc]
                rfl
              rw [← hB] at hown
              obtain ⟨p', c'', he, hia⟩ := ownsRow_ints hi3
              cases he
              obtain ⟨bb, oo, rfl, hcj⟩ := hia.at j hjl
              have HO := Lib.hid hown
              have HI := Lib.hid hi3
              have HN := Lib.hid hne
              have HBS := Lib.hid hBs
              have hszy2 := y2.h.size
              obtain ⟨lj, hlj⟩ : ∃ lj, lj = l[j] := ⟨_, rfl⟩
              rw [← hlj] at hcj HBS
              clear hown hi3 hne hBs hia hB hlj
              have hcj2 := ExtW.cell (a := y2.w) hcj ⟨y2.w, Ext.refl _⟩
              go_wp2_with (at_builtin; refine wpList_append_lies _ rfl (.tmp 61) (.tmp 65) 24 rfl W.heap.size 45 i2 (.agg #[.int .i64 0, .int .i64 0]) 2 16 Try.underlying24 hi2 hz2 hy2 hb2 rfl (by decide) _ B.length _ rfl (HO.out.alloc _) ⟨y2.w.heap.size, 0, none⟩ 1 1 [.int .i64 k, .int .i64 lj] rfl rfl ?c1 ?c2 (by decide) ?c3 ?c4 ?c5 (y2.w.heap.size + 1) (size_alloc _ _) ?_)
              case c2 => exact ⟨rfl, rfl⟩
              case c3 => unfold maxLen; omega
              case c4 => omega
              case c5 => omega
              intro g4 cap4 w4 hown4 hgr4 hat4 hlt4
              have hE4 : Ext W w4 := Below.grown (y2.h.alloc _) hgr4 (by rw [size_alloc]; omega) (fun j hj => (HO.out.lt j hj).1)
              have hI4 := (HI.out.alloc _).kept hgr4 HN.out
              have hN4 : (Value.slice (some ⟨bb, oo, none⟩) l.length c2').ownBlock = none ∨ (Value.slice (some ⟨bb, oo, none⟩) l.length c2').ownBlock ≠ (Value.slice (some ⟨g4, 0, none⟩) (B.length + 1) cap4).ownBlock := by
                refine Or.inr fun he => ?_
                have he' : bb = g4 := by simpa [Value.ownBlock] using he
                have h9 := (HI.out.lt bb rfl).2
                rcases hat4 with ha | ha
                · rcases HN.out with h8 | h8
                  · simp [Value.ownBlock] at h8
                  · exact h8 (by rw [ha, ← he']; rfl)
                · omega
              have HO4 := Lib.hid hown4
              have HI4 := Lib.hid hI4
              have HN4 := Lib.hid hN4
              obtain ⟨y4, rfl⟩ := ExtW.of hE4
              clear hown4 hgr4 hat4 hlt4 hE4 hI4 hN4 HO HI HN hcj hcj2
              go_wp2
              go_roundw
              case rel => exact ⟨j + 1, by omega, by go_num, y4, rfl, by rw [← HBS.out, pairVs_append, List.length_append]; exact HO4.out, HI4.out, HN4.out⟩
              case measure => simp [intOf]; omega
            · obtain rfl : j = l.length := by omega
              rw [List.take_length] at hB
              rw [List.take_length, ← hB] at hown
              have HO := Lib.hid hown
              have HBB := Lib.hid hB
              clear hown hi3 hne hB
              go_wp2
              go_roundw
              case rel => exact ⟨k + 1, by omega, by go_num, y2, rfl, by rw [HSC.out, ← HBB.out]; exact HO.out⟩
              case measure => simp [intOf]; omega
        · obtain rfl : k = S.boxes.length := by omega
          have HO := Lib.hid hown
          obtain ⟨p9, c9, rfl, hp9⟩ := own_pairs HO.out
          have HP9 := Lib.hid hp9
          clear hown hp9
          go_wp2
          refine marks_ret (v := .tuple #[.slice p9 (alwTo c S.boxes.length).length c9, .int .i64 0]) (HD.out y) (fun _ _ => results_tmp2 (t := 2) (u := 3) rfl _ _ _) (fun W' hW' => ?_)
          refine Or.inl ⟨HS.out, p9, c9, ?_, ?_, ?_⟩
          · unfold alwL
            rw [HCF.out]
          · unfold alwL
            rw [← HCF.out]
            intro i hi
            obtain ⟨b9, o9, rfl, e1, e2⟩ := HP9.out i hi
            have hge := (HO.out.lt b9 rfl).1
            exact ⟨b9, o9, rfl, But.cell hW' e1 (by omega), But.cell hW' e2 (by omega)⟩
          · have := HEW.out.size
            exact (HEW.out.trans y.h).trans' (hW'.below (by omega))
  · have HS := Lib.hid hS
    have HC2 := Lib.hid (fun w' h => (HC.out w' h).mono (R' := RetE (.int .i64 70) w') (fun e w'' hh => by rw [← chk_f hS]; exact hh))
    clear HC hS
    go_enter Try.func44, Try.ntmps44
    go_wp2_with fail
    refine (HC2.out _ (Ext.alloc (Ext.refl w) _)).mono ?_
    rintro e W2 ⟨rfl, hE2⟩
    go_wp2
    go_ret2
    exact Or.inr ⟨HS.out, rfl, (Ext.alloc (Ext.refl w) _).trans hE2⟩
end Go.Proofs.Ytpgjkmjejpfkmaa
