
/- Charts: the walks of Order, and of the reference's Orders and IsOrder. -/
import Derived.Test.YtppncdbhebgcaaaGreatDoorE4a
import Derived.Test.YtppncdbhebgcaaaGreatDoorCC
import Derived.Test.YtppncdbhebgcaaaGreatDoorE1a
import Derived.Test.YtppncdbhebgcaaaGreatDoorCD
import Derived.Deep.RegionWith
import Derived.Deep.RegionHeld3
namespace Go.Proofs.YtppncdbhebgcaaaGreatDoor
open Go.RowKit

def cmpO (T : Tab) (x y : Int) : Int := if ahd x.toNat (hiT T x.toNat) y.toNat (hiT T y.toNat) = true then -1 else 1
def RO (T : Tab) (x y : Int) : Prop := ahd y.toNat (hiT T y.toNat) x.toNat (hiT T x.toNat) = false
theorem RO.trans {T : Tab} : ∀ x y z, RO T x y → RO T y z → RO T x z := by
  intro x y z h1 h2
  unfold RO at *
  rw [Bool.eq_false_iff]
  intro h
  by_cases e : y.toNat = z.toNat
  · rw [← e] at h; rw [h] at h1; cases h1
  · rcases ahd_total (i := y.toNat) (j := z.toNat) (hiT T y.toNat) (hiT T z.toNat) e with h3 | h3
    · rw [ahd_trans h3 h] at h1; cases h1
    · rw [h3] at h2; cases h2
theorem cmpO_lt {T : Tab} {x y : Int} (h : cmpO T x y < 0) : RO T x y := by
  unfold cmpO at h
  unfold RO
  by_cases e : ahd x.toNat (hiT T x.toNat) y.toNat (hiT T y.toNat) = true
  · exact ahd_asymm e
  · rw [if_neg e] at h; omega
theorem cmpO_ge {T : Tab} {x y : Int} (h : ¬cmpO T x y < 0) : RO T y x := by
  unfold cmpO at h
  unfold RO
  by_cases e : ahd x.toNat (hiT T x.toNat) y.toNat (hiT T y.toNat) = true
  · rw [if_pos e] at h; omega
  · exact Bool.eq_false_iff.2 e
/-- sorted titles are the order of their greatest numbers -/
theorem order_sorted {T : Tab} {n : Nat} {l : List Int} (hp : l.Perm ((List.range n).map fun k : Nat => (k : Int))) (hs : l.Pairwise (RO T)) : l = ordI n (hiT T) := by
  have hnn : ∀ v ∈ l, 0 ≤ v := fun v hv => by
    obtain ⟨k, -, rfl⟩ := List.mem_map.1 (hp.subset hv)
    exact Int.natCast_nonneg _
  have hpp : (l.map Int.toNat).Perm (List.range n) := by
    have := hp.map Int.toNat
    rw [List.map_map] at this
    have e : (List.range n).map (Int.toNat ∘ fun k : Nat => (k : Int)) = List.range n := by
      have : (Int.toNat ∘ fun k : Nat => (k : Int)) = id := funext fun k => by simp
      rw [this, List.map_id]
    rwa [e] at this
  have hnd : (l.map Int.toNat).Nodup := hpp.nodup_iff.2 List.nodup_range
  have ho : IsOrd n (hiT T) (l.map Int.toNat) := by
    refine ⟨hpp, pairwise_chain _ ?_ none fun _ _ => rfl⟩
    rw [List.pairwise_map]
    rw [List.nodup_iff_pairwise_ne, List.pairwise_map] at hnd
    refine (hs.and hnd).imp fun {a b} h => ?_
    rcases ahd_total (i := a.toNat) (j := b.toNat) (hiT T a.toNat) (hiT T b.toNat) h.2 with h3 | h3
    · exact h3
    · have h4 := h.1
      unfold RO at h4
      rw [h3] at h4; cases h4
  have h := ordI_of ho
  rw [cast_toNat hnn] at h
  exact h

set_option maxRecDepth 20000 in
set_option maxHeartbeats 1600000 in
theorem orderFn06 (T : Tab) (hG : TabG T) (a b : Nat) (ha : a < T.length) (hb : b < T.length) (q : Option Addr) (c bt : Nat) (w : World) (hv : ListsAt w q T) (hc : w.cell? ⟨bt, 0, none⟩ = some (.slice q T.length c)) :
    Calls Tryz.prog 50 #[.int .i64 (a : Int), .int .i64 (b : Int), .pointer (some ⟨bt, 0, none⟩)] w (RetE (.int .i64 (cmpO T a b)) w) := by
  have h1 := fun x : ExtW w => ExtW.call (x := x) (high06 T hG.ok a ha hG.ls q c x.w (hv.ext x.h))
  have h2 := fun x : ExtW w => ExtW.call (x := x) (high06 T hG.ok b hb hG.ls q c x.w (hv.ext x.h))
  have hco : cmpO T a b = if ahd a (hiT T a) b (hiT T b) = true then -1 else 1 := by unfold cmpO; rw [Int.toNat_natCast, Int.toNat_natCast]
  obtain ⟨x, hx⟩ : ∃ x, x = hiT T a := ⟨_, rfl⟩
  obtain ⟨y, hy⟩ : ∃ y, y = hiT T b := ⟨_, rfl⟩
  rw [← hx] at h1 hco
  rw [← hy] at h2 hco
  have h3 := fun z : ExtW w => ExtW.call (x := z) (ahead06 a x b y z.w)
  obtain ⟨bb, hbb⟩ : ∃ bb, bb = ahd a x b y := ⟨_, rfl⟩
  rw [← hbb] at hco h3
  have H1 := Lib.hid h1
  have H2 := Lib.hid h2
  have H3 := Lib.hid h3
  have HCO := Lib.hid hco
  have c0 := ExtW.cell hc
  obtain ⟨x0, hx0⟩ := ExtW.of (Ext.refl w)
  clear h1 h2 h3 hco hx hy hbb hv hG ha hb hc
  go_enter Tryz.func50, Tryz.ntmps50
  conv => arg 5; rw [hx0]
  clear hx0
  go_upto_region 1 with (fail)
  refine wp_region_extW (by kernel_rfl) (by kernel_rfl) ?_
  repeat (go_big_quiet_step (first
    | (go_at_call 37; with_reducible exact H1.out _)
    | (go_at_call 37; with_reducible exact H2.out _)
    | (go_at_call 51; exact H3.out _)))
  refine wpQuiet_nil ?_
  rintro _ ⟨x2, rfl⟩
  cases bb with
  | true =>
    go_wp2
    go_ret
    exact RetE.fin x2.h (by rw [HCO.out]; rfl)
  | false =>
    go_wp2
    go_ret
    exact RetE.fin x2.h (by rw [HCO.out]; rfl)

section
variable (bt : Nat)
set_option maxRecDepth 20000 in
theorem insNil06 (w : World) : Calls Tryz.prog 101 #[.slice none 0 0, .int .i64 0, .int .i64 0, .func (.func 50) #[] #[.pointer (some ⟨bt, 0, none⟩)]] w (RetE (.tuple #[]) w) := by
  go_enter Tryz.func101, Tryz.ntmps101
  go_wp2
  refine wp_loop_rounds 1 ?_
  rw [rounds_succ]
  go_wp2
  (try simp only [Exit.inBlock, Exit.then])
  refine bodyPost_ret (results_none rfl _ _ _) rfl ?_
  exact ⟨rfl, Ext.refl _⟩
set_option maxRecDepth 20000 in
set_option maxHeartbeats 1600000 in
theorem pdqNil06 (lim : Int) (w : World) : Calls Tryz.prog 80 #[.slice none 0 0, .int .i64 0, .int .i64 0, .int .i64 lim, .func (.func 50) #[] #[.pointer (some ⟨bt, 0, none⟩)]] w (RetE (.tuple #[]) w) := by
  have HI := Lib.hid (insNil06 bt w)
  go_enter Tryz.func80, Tryz.ntmps80
  go_wp2
  refine wp_loop_rounds 1 ?_
  rw [rounds_succ]
  go_wp2_with (go_at_call 101; refine HI.out.mono ?_; rintro e w2 ⟨rfl, hE2⟩)
  (try simp only [Exit.inBlock, Exit.then])
  refine bodyPost_ret (results_none rfl _ _ _) rfl ?_
  exact ⟨rfl, hE2⟩
set_option maxRecDepth 20000 in
set_option maxHeartbeats 1600000 in
theorem sortNil06 (w : World) : Calls Tryz.prog 49 #[.slice none 0 0, .func (.func 50) #[] #[.pointer (some ⟨bt, 0, none⟩)]] w (RetE (.tuple #[]) w) := by
  have HI := Lib.hid (fun lim y => pdqNil06 bt lim y)
  have HN := Lib.hid (fun y => len_small 0 (by omega) y)
  go_enter Tryz.func49, Tryz.ntmps49
  go_wp2_with (first
    | (go_at_call 81; refine (HN.out _).mono ?_; rintro e w2 ⟨⟨lim, rfl⟩, hE2⟩)
    | (go_at_call 80; refine (HI.out _ _).mono ?_; rintro e w3 ⟨rfl, hE3⟩))
  (try simp only [Exit.inBlock, Exit.then])
  refine bodyPost_ret (results_none rfl _ _ _) rfl ?_
  exact ⟨rfl, hE2.trans hE3⟩
end
noncomputable def orderA (C : Ch) : List Int := okL (errC C true) (ordI (tabC C).length (hiT (tabC C)))

set_option maxRecDepth 20000 in
set_option maxHeartbeats 3200000 in
theorem Order06 (C : Ch) (v : Value) (w : World) (hv : ChV w v C) (hs : ChSm C) (hT : TabW w) :
    Calls Tryz.prog 18 #[v] w (RetL (orderA C) (errC C true) w) := by
  have HAK := Lib.hid (fun y (h : Ext w y) => ask06 C true v y (hv.ext h) hs (hT.ext h))
  obtain ⟨z, hz⟩ : ∃ z, z = errC C true := ⟨_, rfl⟩
  obtain ⟨T, hTT⟩ : ∃ T, T = askT C true := ⟨_, rfl⟩
  rw [← hz, ← hTT] at HAK
  have HZ := Lib.hid (⟨hz, hTT⟩ : z = errC C true ∧ T = askT C true)
  have hT6 : T.length ≤ 6 := by rw [hTT]; exact (askT_rows C).2.2
  obtain ⟨i0, hi, hz0, hz1, hz2⟩ := info_parts info_a
  obtain ⟨p, c, q, d, rfl, hp, hq⟩ := hv
  clear hp hq hT hs hz hTT
  go_enter Tryz.func18, Tryz.ntmps18
  go_upto_region 1 with (fail)
  obtain ⟨s0, hs0⟩ : ∃ s0, s0 = w.heap.size := ⟨_, rfl⟩
  obtain ⟨W, hW⟩ : ∃ W, W = w.alloc (.cells #[.slice p C.meters.length c, .slice q C.extra.length d, .int .i64 C.frm, .int .i64 C.tto] 25) := ⟨_, rfl⟩
  have m0 : W.heap[s0]? = some (.cells #[.slice p C.meters.length c, .slice q C.extra.length d, .int .i64 C.frm, .int .i64 C.tto] 25) := by rw [hs0, hW]; exact heap_new _ _
  have hE : Ext w W := by rw [hW]; exact Ext.alloc (Ext.refl _) _
  rw [← hs0, ← hW]
  have a0 : W.cell? ⟨s0, 0, none⟩ = some (.slice p C.meters.length c) := cell_of_heap m0 0
  have a1 : W.cell? ⟨s0, 1, none⟩ = some (.slice q C.extra.length d) := cell_of_heap m0 1
  have a2 : W.cell? ⟨s0, 2, none⟩ = some (.int .i64 C.frm) := cell_of_heap m0 2
  have a3 : W.cell? ⟨s0, 3, none⟩ = some (.int .i64 C.tto) := cell_of_heap m0 3
  have HE := Lib.hid hE
  clear hW m0 hE hs0
  go_upto_region 2 with (go_at_call 31; refine (HAK.out _ HE.out).mono ?_; rintro e w2 ⟨u, vs, rfl, hR, hE2, -⟩; obtain ⟨qt, ct, rfl, hLT⟩ := hR.lists)
  obtain ⟨bt, hbt⟩ : ∃ bt, bt = w2.heap.size := ⟨_, rfl⟩
  obtain ⟨W3, hW3⟩ : ∃ W3, W3 = w2.alloc (.cells #[.slice qt T.length ct] 69) := ⟨_, rfl⟩
  have m3 : W3.heap[bt]? = some (.cells #[.slice qt T.length ct] 69) := by rw [hbt, hW3]; exact heap_new _ _
  have hE3 : Ext w W3 := by rw [hW3]; exact (HE.out.trans hE2).alloc _
  have hL3 : ListsAt W3 qt T := by rw [hW3]; exact hLT.ext (Ext.alloc (Ext.refl _) _)
  rw [← hbt, ← hW3]
  have HE3 := Lib.hid hE3
  have HL3 := Lib.hid hL3
  have HM3 := Lib.hid m3
  have c3 : W3.cell? ⟨bt, 0, none⟩ = some (.slice qt T.length ct) := cell_of_heap m3 0
  have hb3 : bt < W3.heap.size := (Array.getElem?_eq_some_iff.1 m3).1
  clear hbt hW3 m3 hE3 hL3 hLT hR hE2 a0 a1 a2 a3 HAK
  by_cases hz0' : z = 0
  case neg =>
    have hg : (z == 0) = false := by simpa using hz0'
    have HNA := Lib.hid (show orderA C = [] from okL_ne (by rw [← HZ.out.1]; exact hz0') _)
    clear hz0'
    go_wp2
    go_ret2
    exact ⟨_, by rw [← HZ.out.1]; rfl, by rw [HNA.out]; exact World.ownsRow_nil _ _ _ _, HE3.out⟩
  subst hz0'
  obtain ⟨hC, -, hso⟩ := errC_0 HZ.out.1.symm
  have hTC : T = tabC C := by rw [HZ.out.2, askT_0 HZ.out.1.symm]
  have HG := Lib.hid (show TabG T from by rw [hTC]; exact tabC_ok hC hso)
  have HNA := Lib.hid (show orderA C = ordI T.length (hiT T) from by rw [hTC]; exact okL_0 HZ.out.1.symm _)
  clear hC hso hTC
  go_wp2
  go_loopw [6, 18] (fun u a wr => ∃ k : Nat, k ≤ T.length ∧ a = .int .i64 k ∧ Ext W3 wr ∧ wr.ownsRow W3.heap.size 3 1 u k (intVs ((List.range k).map fun j : Nat => (j : Int))) ∧ (k = 0 → u = .slice none 0 0)) (fun _ a _ => T.length - (intOf a).toNat)
  case atStart => exact ⟨0, Nat.zero_le _, rfl, Ext.refl _, World.ownsRow_nil _ _ _ _, fun _ => rfl⟩
  case round =>
    obtain ⟨k, hk, rfl, hEW, hO, hnu⟩ := hrel
    have HNU := Lib.hid hnu
    have HEW := Lib.hid hEW
    have HO := Lib.hid hO
    clear hEW hO hnu
    by_cases hlt : k < T.length
    · have hlt' : (k : Int) < (T.length : Int) := by omega
      have HPN := Lib.hid (show (List.range (k + 1)).map (fun j : Nat => (j : Int)) = (List.range k).map (fun j : Nat => (j : Int)) ++ [(k : Int)] from by rw [List.range_succ, List.map_append]; rfl)
      go_wp2_with (at_builtin; refine wpList_append_lies _ rfl (.tmp 21) (.tmp 23) 23 rfl W3.heap.size 3 i0 (.int .i64 0) 1 8 Tryz.underlying23 hi hz0 hz1 hz2 rfl (by decide) _ k _ rfl (HO.out.alloc _) ⟨wr.heap.size, 0, none⟩ 1 1 [.int .i64 (k : Int)] rfl rfl (hnewsE (Ext.refl _) rfl) (one_int _) (by decide) ?c3 ?c4 ?c5 (wr.heap.size + 1) (size_alloc _ _) ?_)
      case c3 => unfold maxLen; omega
      case c4 => omega
      case c5 => have := HEW.out.size; first | omega | (rw [size_alloc]; omega)
      intro g4 cap4 w4 hown4 hgr4 hat4 hlt4
      have hE4 : Ext W3 w4 := Below.grown (HEW.out.alloc _) hgr4 (HEW.out.alloc _).size (fun i hi => (HO.out.lt i hi).1)
      have HO4 := Lib.hid hown4
      have HE4 := Lib.hid hE4
      clear hown4 hgr4 hat4 hlt4 hE4
      go_wp2
      go_roundw
      case rel => exact ⟨k + 1, by omega, by simp, HE4.out, by rw [HPN.out, intVs_snoc]; exact HO4.out, fun h => absurd h (by omega)⟩
      case measure => simp [intOf]; omega
    · obtain rfl : k = T.length := by omega
      have hge : ¬((T.length : Int) < (T.length : Int)) := by omega
      by_cases hn0 : T.length = 0
      · obtain rfl := HNU.out hn0
        have HSN := Lib.hid (sortNil06 bt wr)
        have HN0 := Lib.hid hn0
        clear hn0
        go_wp2_with (go_at_call 49; refine HSN.out.mono ?_; rintro e w5 ⟨rfl, hE5⟩)
        go_ret2
        exact ⟨_, by rw [← HZ.out.1]; rfl, by rw [HNA.out, HN0.out]; exact World.ownsRow_nil _ _ _ _, HE3.out.trans (HEW.out.trans hE5)⟩
      · obtain ⟨g, cg, rfl, -⟩ := ownsRow_at HO.out 0 (by omega)
        have hgB := (HO.out.lt g rfl).1
        have HSO := Lib.hid (sortCO W3.heap.size g T.length cg ((List.range T.length).map fun j : Nat => (j : Int)) (by simp) (by omega) wr HO.out bt (RO T) RO.trans (cmpO T) (fun _ _ _ _ h => cmpO_lt h) (fun _ _ _ _ h => cmpO_ge h) (fun x hx y hy z hz => by
          obtain ⟨a, ha, rfl⟩ := List.mem_map.1 hx
          obtain ⟨b, hb, rfl⟩ := List.mem_map.1 hy
          have hEz : Ext W3 z := HEW.out.ups hz hgB
          exact orderFn06 T HG.out a b (List.mem_range.1 ha) (List.mem_range.1 hb) qt ct bt z (HL3.out.ext hEz) (cell_of_heap (heap_ext3 HM3.out hEz) 0)))
        have HGB := Lib.hid hgB
        have hno : ¬T.length = 0 := hn0
        clear hgB hn0 hno
        go_wp2_with (go_at_call 49; refine HSO.out.mono ?_; rintro e w5 ⟨rfl, l', hp, hs, hU, hO5⟩)
        have HOR := Lib.hid (order_sorted hp hs)
        have HU5 := Lib.hid hU
        have HO5 := Lib.hid hO5
        clear hp hs hU hO5
        go_ret2
        exact ⟨_, by rw [← HZ.out.1]; rfl, by rw [HNA.out, ← HOR.out, show l'.length = T.length from by rw [HOR.out, ordI_len]]; exact ownsRow_base HO5.out HE3.out.size, HE3.out.trans (HEW.out.ups HU5.out HGB.out)⟩

end Go.Proofs.YtppncdbhebgcaaaGreatDoor
