/- The walks of EarnsIn, EarnsAll, Example and works. -/
import Derived.Test.YtpgjkmjejpfkmaaL07c
import Derived.Test.YtpgjkmjejpfkmaaW07p
import Derived.Test.YtpgjkmjejpfkmaaW07m
namespace Go.Proofs.Ytpgjkmjejpfkmaa
open Go.RowKit

/-- what titles earn in a box -/
def earnsIn (S : Swap) (box : Nat) (l : List Int) : Int := (l.map fun t => (S.earn.getD t.toNat []).getD box 0).sum
theorem earnsIn_snoc (S : Swap) (box : Nat) (l : List Int) (t : Int) : earnsIn S box (l ++ [t]) = earnsIn S box l + (S.earn.getD t.toNat []).getD box 0 := by simp [earnsIn]
def earnsTo (S : Swap) (p : List (List Int)) : Nat → Int
  | 0 => 0
  | k + 1 => earnsTo S p k + earnsIn S k (p.getD k [])
/-- what a plan earns altogether -/
def earnsAll (S : Swap) (p : List (List Int)) : Int := earnsTo S p p.length

theorem earn_celle {S : Swap} (hS : ValidE S) (t box : Nat) : 0 ≤ (S.earn.getD t []).getD box 0 ∧ (S.earn.getD t []).getD box 0 ≤ 999 := by
  by_cases h : t < S.earn.length
  · rw [getD_of_lt _ _ _ h]
    by_cases hb : box < S.earn[t].length
    · rw [getD_of_lt _ _ _ hb]; exact hS.cell t h box hb
    · simp [List.getD, List.getElem?_eq_none (by omega : S.earn[t].length ≤ box)]
  · simp [List.getD, List.getElem?_eq_none (by omega : S.earn.length ≤ t)]
theorem earnsIn_bde {S : Swap} (hS : ValidE S) (box : Nat) : ∀ l : List Int, 0 ≤ earnsIn S box l ∧ earnsIn S box l ≤ 999 * l.length
  | [] => by simp [earnsIn]
  | t :: r => by
    have h := earnsIn_bde hS box r
    have hc := earn_celle hS t.toNat box
    simp only [earnsIn, List.map_cons, List.sum_cons, List.length_cons] at h ⊢
    omega

set_option maxHeartbeats 800000 in
theorem EarnsIn07e (v : Value) (S : Swap) (box : Nat) (q : Option Addr) (l : List Int) (c : Nat) (w : World) (hv : SwapV w v S) (hS : ValidE S) (hq : IntsAt w q l) (hl : l.length ≤ 40) (hb : box < S.boxes.length)
    (ht : ∀ t ∈ l, 0 ≤ t ∧ t ≤ (S.stock.length : Int) - 1) :
    Calls Try.prog 60 #[v, .int .i64 box, .slice q l.length c] w (RetE (.int .i64 (earnsIn S box l)) w) := by
  obtain ⟨p0, c0, p1, c1, p2, c2, p3, c3, rfl, h0, h1, h2, h3⟩ := hv
  have m1 := hS.stock
  have M2 := Lib.hid hS.earn
  have m2 : S.earn.length ≤ 6 := by have := M2.out; omega
  have HT := Lib.hid ht
  clear ht
  go_enter Try.func60, Try.ntmps60
  go_upto_region 1 with (fail)
  have hn := heap_new w (.cells #[.slice p0 S.boxes.length c0, .slice p1 S.stock.length c1, .slice p2 S.earn.length c2, .slice p3 S.keeps.length c3, .int .i64 S.changes] 26)
  obtain ⟨W, hW⟩ : ∃ W, W = w.alloc (.cells #[.slice p0 S.boxes.length c0, .slice p1 S.stock.length c1, .slice p2 S.earn.length c2, .slice p3 S.keeps.length c3, .int .i64 S.changes] 26) := ⟨_, rfl⟩
  have hE : Ext w W := by rw [hW]; exact Ext.alloc (Ext.refl w) _
  rw [← hW] at hn ⊢
  have q2 := ExtW.cell (v := .slice p2 S.earn.length c2) (cell_of_heap hn 2)
  have k2 := h2.ext hE
  have kq := hq.ext hE
  obtain ⟨x0, hx0⟩ := ExtW.of (Ext.refl W)
  clear hW hn h0 h1 h2 h3 hq
  conv => arg 5; rw [hx0]
  go_wp2
  go_loopw [7, 8] (fun n i wr => ∃ k : Nat, k ≤ l.length ∧ i = .int .i64 k ∧ n = .int .i64 (earnsIn S box (l.take k)) ∧ ∃ x : ExtW W, wr = x.w) (fun _ i _ => l.length - (intOf i).toNat)
  case atStart => exact ⟨0, by omega, rfl, rfl, x0, rfl⟩
  case round =>
    obtain ⟨k, hk, rfl, rfl, x, rfl⟩ := hrel
    obtain ⟨e1, e2⟩ := earnsIn_bde hS box (l.take k)
    have e3 : (l.take k).length ≤ 40 := by rw [List.length_take]; omega
    by_cases hlt : k < l.length
    · obtain ⟨b, o, rfl, hc⟩ := kq.at k hlt
      have htk := HT.out l[k] (List.getElem_mem hlt)
      have hsn := earnsIn_snoc S box (l.take k) l[k]
      rw [← List.take_succ_eq_append_getElem hlt] at hsn
      have hec := earn_celle hS (l[k]).toNat box
      obtain ⟨t, htt⟩ : ∃ t, t = l[k] := ⟨_, rfl⟩
      rw [← htt] at hc htk hsn hec
      obtain ⟨tn, rfl⟩ := Int.eq_ofNat_of_zero_le htk.1
      simp only [Int.toNat_natCast] at hsn hec
      have htl : tn < S.earn.length := by have := M2.out; omega
      obtain ⟨b2, o2, q', c', rfl, hc2, hq'⟩ := k2.at tn htl
      have hbl : box < S.earn[tn].length := by rw [hS.row tn htl]; exact hb
      obtain ⟨b3, o3, rfl, hc3⟩ := hq'.at box hbl
      rw [getD_of_lt _ _ _ htl, getD_of_lt _ _ _ hbl] at hsn hec
      have r1 := ExtW.cell hc
      have r2 := ExtW.cell hc2
      have r3 := ExtW.cell hc3
      obtain ⟨z, hz⟩ : ∃ z, z = S.earn[tn][box] := ⟨_, rfl⟩
      rw [← hz] at r3 hsn hec
      obtain ⟨a, ha⟩ : ∃ a, a = earnsIn S box (l.take k) := ⟨_, rfl⟩
      rw [← ha] at hsn e1 e2
      obtain ⟨z1, z2⟩ := hec
      have hw : IntKind.i64.wrap (a + z) = a + z := IntWalk.i64_in _ (by omega)
      have HSN := Lib.hid hsn
      have HA := Lib.hid ha
      clear hsn htt hc hc2 hc3 hz
      rw [← ha]
      clear ha
      go_upto_region 5 with (fail)
      refine wp_region_extW (by kernel_rfl) (by kernel_rfl) ?_
      repeat (go_big_quiet_step (fail))
      refine wpQuiet_nil ?_
      rintro _ ⟨x2, rfl⟩
      go_wp2
      go_roundw
      case rel => exact ⟨k + 1, by omega, by go_num, by rw [HSN.out], x2, rfl⟩
      case measure => simp [intOf]; omega
    · obtain rfl : k = l.length := by omega
      rw [List.take_length]
      go_wp2
      go_ret
      exact RetE.fin (hE.trans x.h) rfl

theorem earnsTo_bde {S : Swap} (hS : ValidE S) (p : List (List Int)) (hp : ∀ i (h : i < p.length), p[i].length ≤ 40) : ∀ k, k ≤ p.length → 0 ≤ earnsTo S p k ∧ earnsTo S p k ≤ 39960 * k
  | 0, _ => by simp [earnsTo]
  | k + 1, h => by
    have h1 := earnsTo_bde hS p hp k (by omega)
    have h2 := earnsIn_bde hS k (p.getD k [])
    have h3 := hp k (by omega)
    rw [getD_of_lt _ _ _ (by omega : k < p.length)] at h2
    have h4 : earnsTo S p (k+1) = earnsTo S p k + earnsIn S k p[k] := by rw [earnsTo, getD_of_lt _ _ _ (by omega : k < p.length)]
    omega

set_option maxHeartbeats 800000 in
theorem EarnsAll07e (v : Value) (S : Swap) (q : Option Addr) (l : List (List Int)) (c : Nat) (w : World) (hv : SwapV w v S) (hS : ValidE S) (hq : ListsAt w q l) (hl : l.length ≤ S.boxes.length)
    (hr : ∀ i (h : i < l.length), l[i].length ≤ 40) (ht : ∀ i (h : i < l.length), ∀ t ∈ l[i], 0 ≤ t ∧ t ≤ (S.stock.length : Int) - 1) :
    Calls Try.prog 21 #[v, .slice q l.length c] w (RetE (.int .i64 (earnsAll S l)) w) := by
  have HC := Lib.hid (fun (w' : World) (hE : Ext w w') (i : Nat) (h : i < l.length) (q' : Option Addr) (c' : Nat) (hq' : IntsAt w' q' l[i]) =>
    EarnsIn07e v S i q' l[i] c' w' (SwapV.mono _ _ _ _ hE hv) hS hq' (hr i h) (by omega) (ht i h))
  have HB := Lib.hid (fun k (h : k ≤ l.length) => earnsTo_bde hS l hr k h)
  obtain ⟨p0, c0, p1, c1, p2, c2, p3, c3, rfl, -⟩ := hv
  have m1 := hS.boxes
  clear hr ht
  go_enter Try.func21, Try.ntmps21
  go_upto_region 1 with (fail)
  have hn := heap_new w (.cells #[.slice p0 S.boxes.length c0, .slice p1 S.stock.length c1, .slice p2 S.earn.length c2, .slice p3 S.keeps.length c3, .int .i64 S.changes] 26)
  obtain ⟨W, hW⟩ : ∃ W, W = w.alloc (.cells #[.slice p0 S.boxes.length c0, .slice p1 S.stock.length c1, .slice p2 S.earn.length c2, .slice p3 S.keeps.length c3, .int .i64 S.changes] 26) := ⟨_, rfl⟩
  have hE : Ext w W := by rw [hW]; exact Ext.alloc (Ext.refl w) _
  rw [← hW] at hn ⊢
  have r0 := ExtW.cell (v := .slice p0 S.boxes.length c0) (cell_of_heap hn 0)
  have r1 := ExtW.cell (v := .slice p1 S.stock.length c1) (cell_of_heap hn 1)
  have r2 := ExtW.cell (v := .slice p2 S.earn.length c2) (cell_of_heap hn 2)
  have r3 := ExtW.cell (v := .slice p3 S.keeps.length c3) (cell_of_heap hn 3)
  have r4 := ExtW.cell (v := .int .i64 S.changes) (cell_of_heap hn 4)
  have kq := hq.ext hE
  obtain ⟨x0, hx0⟩ := ExtW.of (Ext.refl W)
  clear hW hn hq
  conv => arg 5; rw [hx0]
  go_wp2
  go_loopw [5, 6] (fun n i wr => ∃ k : Nat, k ≤ l.length ∧ i = .int .i64 k ∧ n = .int .i64 (earnsTo S l k) ∧ ∃ x : ExtW W, wr = x.w) (fun _ i _ => l.length - (intOf i).toNat)
  case atStart => exact ⟨0, by omega, rfl, rfl, x0, rfl⟩
  case round =>
    obtain ⟨k, hk, rfl, rfl, x, rfl⟩ := hrel
    obtain ⟨e1, e2⟩ := HB.out k hk
    by_cases hlt : k < l.length
    · obtain ⟨b2, o2, q', c', rfl, hc2, hq'⟩ := kq.at k hlt
      have hsn : earnsTo S l (k+1) = earnsTo S l k + earnsIn S k l[k] := by rw [earnsTo, getD_of_lt _ _ _ hlt]
      obtain ⟨f1, f2⟩ := HB.out (k+1) hlt
      have HSN := Lib.hid hsn
      rw [hsn] at f1 f2
      have s2 := ExtW.cell hc2
      have HCC := Lib.hid (fun x : ExtW W => ExtW.call (HC.out x.w (hE.trans x.h) k hlt q' c' (hq'.ext x.h)))
      obtain ⟨a, ha⟩ : ∃ a, a = earnsTo S l k := ⟨_, rfl⟩
      obtain ⟨z, hz⟩ : ∃ z, z = earnsIn S k l[k] := ⟨_, rfl⟩
      rw [← ha, ← hz] at HSN f1 f2
      rw [← ha] at e1 e2
      rw [← hz] at HCC
      rw [← ha]
      have hw : IntKind.i64.wrap (a + z) = a + z := IntWalk.i64_in _ (by omega)
      clear hsn hc2 ha hz HC HB hq'
      obtain ⟨n, hn⟩ : ∃ n, n = l[k].length := ⟨_, rfl⟩
      rw [← hn] at HCC s2
      clear hn
      go_upto_region 5 with (fail)
      refine wp_region_extW (by kernel_rfl) (by kernel_rfl) ?_
      repeat (go_big_quiet_step ((go_at_call 60; exact HCC.out _)))
      refine wpQuiet_nil ?_
      rintro _ ⟨x2, rfl⟩
      go_wp2
      go_roundw
      case rel => exact ⟨k + 1, by omega, by go_num, by rw [HSN.out], x2, rfl⟩
      case measure => simp [intOf]; omega
    · obtain rfl : k = l.length := by omega
      go_wp2
      go_ret
      exact RetE.fin (hE.trans x.h) rfl

theorem earn_cell {S : Swap} (hS : Valid S) (t box : Nat) : 0 ≤ (S.earn.getD t []).getD box 0 ∧ (S.earn.getD t []).getD box 0 ≤ 999 := earn_celle hS.e t box
theorem earnsIn_bd {S : Swap} (hS : Valid S) (box : Nat) (l : List Int) : 0 ≤ earnsIn S box l ∧ earnsIn S box l ≤ 999 * l.length := earnsIn_bde hS.e box l
theorem earnsTo_bd {S : Swap} (hS : Valid S) (p : List (List Int)) (hp : ∀ i (h : i < p.length), p[i].length ≤ 40) (k : Nat) (h : k ≤ p.length) : 0 ≤ earnsTo S p k ∧ earnsTo S p k ≤ 39960 * k := earnsTo_bde hS.e p hp k h
theorem EarnsIn07 (v : Value) (S : Swap) (box : Nat) (q : Option Addr) (l : List Int) (c : Nat) (w : World) (hv : SwapV w v S) (hS : Valid S) (hq : IntsAt w q l) (hl : l.length ≤ 40) (hb : box < S.boxes.length)
    (ht : ∀ t ∈ l, 0 ≤ t ∧ t ≤ (S.stock.length : Int) - 1) :
    Calls Try.prog 60 #[v, .int .i64 box, .slice q l.length c] w (RetE (.int .i64 (earnsIn S box l)) w) := EarnsIn07e v S box q l c w hv hS.e hq hl hb ht
theorem EarnsAll07 (v : Value) (S : Swap) (q : Option Addr) (l : List (List Int)) (c : Nat) (w : World) (hv : SwapV w v S) (hS : Valid S) (hq : ListsAt w q l) (hl : l.length ≤ S.boxes.length)
    (hr : ∀ i (h : i < l.length), l[i].length ≤ 40) (ht : ∀ i (h : i < l.length), ∀ t ∈ l[i], 0 ≤ t ∧ t ≤ (S.stock.length : Int) - 1) :
    Calls Try.prog 21 #[v, .slice q l.length c] w (RetE (.int .i64 (earnsAll S l)) w) := EarnsAll07e v S q l c w hv hS.e hq hl hr ht

/-- the visit of the chapter's examples -/
def exS : Swap := ⟨[[0, 1], [0, 2]], [0, 0, 0, 1], [[5, 9], [4, 1], [6, 3], [7, 8]], [], 1⟩
end Go.Proofs.Ytpgjkmjejpfkmaa
