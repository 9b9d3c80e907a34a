
/- The walks of rough and play. The walk of run: the state at the start, and the function that yields each week. The walk of the function that yields each week, with the state behind it. The walk of Run. The walk of Good. -/
import Derived.Test.YtppncdbhebgcaaaVB
namespace Go.Proofs.Ytppncdbhebgcaaa.We
open Go.RowKit

set_option maxHeartbeats 800000 in
theorem rough03 (v : Value) (X : Wr) (a : Int) (w : World) (hv : WrV w v X) (hX : ValidW X) (ha : 0 ≤ a) (hb : a ≤ 1000000) : Calls Try.prog 75 #[v, .int .i64 a] w (RetE (.int .i64 (roughW X a)) w) := by
  obtain ⟨p, c, q, d, rfl, h1, h2⟩ := hv
  have hr := hX.rough
  have hs := hX.step
  have hi := roughI_lt hX ha
  obtain ⟨b, o, rfl, hc⟩ := h1.at (roughI X a) hi
  rw [← roughW_eq hX ha] at hc
  have hq : Int.tdiv a X.step = a / X.step := Int.tdiv_eq_ediv_of_nonneg ha
  have hz : ¬X.step = 0 := by omega
  have hq0 : 0 ≤ a / X.step := Int.ediv_nonneg ha (by omega)
  have hq1 : a / X.step ≤ a := Int.ediv_le_self _ ha
  have hI : roughI X a = (min (a / X.step) ((X.rough.length : Int) - 1)).toNat := rfl
  obtain ⟨qq, hqq⟩ : ∃ qq, qq = a / X.step := ⟨_, rfl⟩
  rw [← hqq] at hq hq0 hq1 hI
  obtain ⟨r, hR⟩ : ∃ r, r = roughW X a := ⟨_, rfl⟩
  obtain ⟨ii, hii⟩ : ∃ ii, ii = roughI X a := ⟨_, rfl⟩
  rw [← hR] at hc ⊢
  rw [← hii] at hc hI hi
  have hw1 : IntKind.i64.wrap ((X.rough.length : Int) - 1) = (X.rough.length : Int) - 1 := by rw [IntKind.wrap_i64]; omega
  have hw2 : IntKind.i64.wrap qq = qq := by rw [IntKind.wrap_i64]; omega
  clear h1 h2 hqq hR hii
  by_cases hm : qq ≤ (X.rough.length : Int) - 1
  · obtain rfl : qq = (ii : Int) := by omega
    have hif : (if (X.rough.length : Int) - 1 < (ii : Int) then (X.rough.length : Int) - 1 else (ii : Int)) = (ii : Int) := if_neg (by omega)
    clear hI hX hm
    go_enter Try.func75, Try.ntmps75
    go_upto_region 1 with (fail)
    have hn := heap_new w (.cells #[.int .i64 X.weeks, .int .i64 X.price, .int .i64 X.age, .int .i64 X.step, .slice (some ⟨b, o, none⟩) X.rough.length c, .slice q X.recs.length d] 94)
    obtain ⟨W, hW⟩ : ∃ W, W = w.alloc (.cells #[.int .i64 X.weeks, .int .i64 X.price, .int .i64 X.age, .int .i64 X.step, .slice (some ⟨b, o, none⟩) X.rough.length c, .slice q X.recs.length d] 94) := ⟨_, rfl⟩
    have hE : Ext w W := by rw [hW]; exact Ext.alloc (Ext.refl w) _
    rw [← hW] at hn ⊢
    have q3 := ExtW.cell (v := .int .i64 X.step) (cell_of_heap hn 3)
    have q4 := ExtW.cell (v := .slice (some ⟨b, o, none⟩) X.rough.length c) (cell_of_heap hn 4)
    have qc := ExtW.cell (hE.cell hc)
    obtain ⟨x0, hx0⟩ := ExtW.of (Ext.refl W)
    clear hW hn hc
    conv => arg 5; rw [hx0]
    clear hx0
    refine wp_region_extW (by kernel_rfl) (by kernel_rfl) ?_
    repeat (go_big_quiet_step (fail))
    refine wpQuiet_nil ?_
    rintro _ ⟨x1, rfl⟩
    go_wp2
    go_ret
    exact RetE.fin (hE.trans x1.h) rfl
  · have hm2 : (X.rough.length : Int) - 1 < qq := by omega
    have hm3 : (X.rough.length : Int) - 1 = (ii : Int) := by omega
    have hif : (if (ii : Int) < qq then (ii : Int) else qq) = (ii : Int) := if_pos (by omega)
    have hw3 : IntKind.i64.wrap (ii : Int) = (ii : Int) := by rw [IntKind.wrap_i64]; omega
    clear hI hX hm hm2 hw1
    go_enter Try.func75, Try.ntmps75
    go_upto_region 1 with (fail)
    have hn := heap_new w (.cells #[.int .i64 X.weeks, .int .i64 X.price, .int .i64 X.age, .int .i64 X.step, .slice (some ⟨b, o, none⟩) X.rough.length c, .slice q X.recs.length d] 94)
    obtain ⟨W, hW⟩ : ∃ W, W = w.alloc (.cells #[.int .i64 X.weeks, .int .i64 X.price, .int .i64 X.age, .int .i64 X.step, .slice (some ⟨b, o, none⟩) X.rough.length c, .slice q X.recs.length d] 94) := ⟨_, rfl⟩
    have hE : Ext w W := by rw [hW]; exact Ext.alloc (Ext.refl w) _
    rw [← hW] at hn ⊢
    have q3 := ExtW.cell (v := .int .i64 X.step) (cell_of_heap hn 3)
    have q4 := ExtW.cell (v := .slice (some ⟨b, o, none⟩) X.rough.length c) (cell_of_heap hn 4)
    have qc := ExtW.cell (hE.cell hc)
    obtain ⟨x0, hx0⟩ := ExtW.of (Ext.refl W)
    clear hW hn hc
    conv => arg 5; rw [hx0]
    clear hx0
    refine wp_region_extW (by kernel_rfl) (by kernel_rfl) ?_
    repeat (go_big_quiet_step (fail))
    refine wpQuiet_nil ?_
    rintro _ ⟨x1, rfl⟩
    go_wp2
    go_ret
    exact RetE.fin (hE.trans x1.h) rfl

def PlayPost (X : Wr) (B o : Nat) (cs : Array Value) (t : TypeId) (a : Int) (n : Nat) (w : World) (e : Ending) (w' : World) : Prop :=
  e = .returned (.int .i64 (grindW X a n)) ∧ w'.heap[B]? = some (.cells (cs.setIfInBounds o (.int .i64 (a + n))) t (0, 0)) ∧ Fr (fun k => k = B) w w'

set_option maxHeartbeats 1600000 in
theorem play03 (v : Value) (X : Wr) (B o : Nat) (cs : Array Value) (t : TypeId) (a : Int) (n : Nat) (w : World) (hv : WrV w v X) (hX : ValidW X) (hB : w.heap[B]? = some (.cells cs t (0, 0))) (hc : cs[o]? = some (.int .i64 a)) (ha : 0 ≤ a) (hb : a ≤ 100000) (hn : n ≤ 99)
    (hR : ∀ w', Fr (fun k => k = B) w w' → WrV w' v X) :
    Calls Try.prog 53 #[.pointer (some ⟨B, o, none⟩), v, .int .i64 n] w (PlayPost X B o cs t a n w) := by
  have hbd := fun k => grindW_bd hX ha k
  have hrb := fun (k : Nat) => roughW_bd hX (a := a + k) (by omega)
  have HX := Lib.hid hX
  have HR := Lib.hid hR
  have hro : ∀ (k : Nat) w', k ≤ n → WrV w' v X → Calls Try.prog 75 #[v, .int .i64 (a + k)] w' (RetE (.int .i64 (roughW X (a + k))) w') := fun k w' hk hw => rough03 v X (a + k) w' hw HX.out (by omega) (by omega)
  obtain ⟨p, c, q, d, rfl, h1, h2⟩ := hv
  have HRO := Lib.hid hro
  have HBD := Lib.hid hbd
  have HRB := Lib.hid hrb
  have HC := Lib.hid hc
  have hoB : o < cs.size := (Array.getElem?_eq_some_iff.1 hc).1
  clear h1 h2 hX hR hro hbd hrb hc
  go_enter Try.func53, Try.ntmps53
  go_upto_region 1 with (fail)
  have hn1 := heap_new w (.cells #[.int .i64 X.weeks, .int .i64 X.price, .int .i64 X.age, .int .i64 X.step, .slice p X.rough.length c, .slice q X.recs.length d] 94)
  obtain ⟨W, hW⟩ : ∃ W, W = w.alloc (.cells #[.int .i64 X.weeks, .int .i64 X.price, .int .i64 X.age, .int .i64 X.step, .slice p X.rough.length c, .slice q X.recs.length d] 94) := ⟨_, rfl⟩
  have hE : Ext w W := by rw [hW]; exact Ext.alloc (Ext.refl w) _
  have hBw : B < w.heap.size := (Array.getElem?_eq_some_iff.1 hB).1
  have hsW : W.heap.size = w.heap.size + 1 := by rw [hW]; simp
  have hB1 := (Below.block hE _ hBw).trans hB
  rw [← hW] at hn1 ⊢
  clear hW hB
  go_wp2
  go_loopw [7, 9] (fun g i wr => ∃ k : Nat, k ≤ n ∧ i = .int .i64 k ∧ g = .int .i64 (grindW X a k) ∧ wr.heap[B]? = some (.cells (cs.setIfInBounds o (.int .i64 (a + k))) t (0, 0)) ∧ Fr (fun k => k = B) W wr) (fun _ i _ => n - (intOf i).toNat)
  case atStart =>
    refine ⟨0, Nat.zero_le _, rfl, rfl, ?_, Fr.refl _ _⟩
    rw [hB1, show a + ((0 : Nat) : Int) = a from by simp]
    have h1 := HC.out
    congr 2
    apply Array.ext (by simp)
    intro i hi1 hi2
    rw [Array.getElem_setIfInBounds]
    split
    · next e => subst e; rw [Array.getElem?_eq_some_iff] at h1; exact h1.2
    · rfl
  case round =>
    obtain ⟨k, hk, rfl, rfl, hBk, hFk⟩ := hrel
    have hWk : Fr (fun k => k = B) w wr := (hE.fr _).trans hFk
    have hkB : wr.cell? ⟨B, o, none⟩ = some (.int .i64 (a + k)) := by rw [cell_of_heap hBk o]; simp [hoB]
    have rB := ExtW.cell hkB
    have hne : ¬ w.heap.size = B := by omega
    have n0 := ExtW.cell (hFk.cell (v := .int .i64 X.weeks) (cell_of_heap hn1 0) hne)
    have n1 := ExtW.cell (hFk.cell (v := .int .i64 X.price) (cell_of_heap hn1 1) hne)
    have n2 := ExtW.cell (hFk.cell (v := .int .i64 X.age) (cell_of_heap hn1 2) hne)
    have n3 := ExtW.cell (hFk.cell (v := .int .i64 X.step) (cell_of_heap hn1 3) hne)
    have n4 := ExtW.cell (hFk.cell (v := .slice p X.rough.length c) (cell_of_heap hn1 4) hne)
    have n5 := ExtW.cell (hFk.cell (v := .slice q X.recs.length d) (cell_of_heap hn1 5) hne)
    have HBK := Lib.hid hBk
    have hBwr : B < wr.heap.size := (Array.getElem?_eq_some_iff.1 hBk).1
    have HF := Lib.hid hFk
    have HWK := Lib.hid hWk
    have hbk := HBD.out k
    have hrk := HRB.out k
    obtain ⟨r, hr⟩ : ∃ r, r = roughW X (a + k) := ⟨_, rfl⟩
    obtain ⟨g, hg⟩ : ∃ g, g = grindW X a k := ⟨_, rfl⟩
    have HCR := Lib.hid (fun y : ExtW wr => ExtW.call (HRO.out k y.w hk (WrV.mono _ _ _ _ y.h (HR.out _ HWK.out))))
    rw [← hr] at hrk HCR
    rw [← hg] at hbk
    have HGR := Lib.hid hr
    have HGG := Lib.hid hg
    conv => arg 4; rw [← hg]
    clear hkB hBk hFk hWk hr hg hB1 hn1
    by_cases hlt : k < n
    · obtain ⟨y0, hy0⟩ := ExtW.of (Ext.refl wr)
      conv => arg 5; rw [hy0]
      clear hy0
      go_upto_region 4 with (fail)
      refine wp_region_extW (by kernel_rfl) (by kernel_rfl) ?_
      repeat (go_big_quiet_step ((go_at_call 75; exact HCR.out _)))
      refine wpQuiet_nil ?_
      rintro _ ⟨y1, rfl⟩
      have hB2 := (Below.block y1.h B hBwr).trans HBK.out
      have hf := cell_frozen hB2 o
      have HB2 := Lib.hid hB2
      clear hB2
      go_wp2
      go_roundw
      case rel =>
        refine ⟨k + 1, by omega, by go_num, ?_, ?_, ?_⟩
        · rw [HGG.out, HGR.out]; rfl
        · refine heap_set HB2.out ?_
          rw [show a + ((k + 1 : Nat) : Int) = a + k + 1 from by omega]
          simp
        · exact (HF.out.trans (y1.h.fr _)).set rfl
      case measure => simp [intOf]; omega
    · obtain rfl : k = n := by omega
      go_wp2
      go_ret
      exact ⟨by rw [HGG.out]; rfl, HBK.out, HWK.out⟩
end Go.Proofs.Ytppncdbhebgcaaa.We
namespace Go.Proofs.Ytppncdbhebgcaaa.We
open Go.RowKit

/-- what the first n records are worn -/
def wornL (n : Nat) (f : Nat → Int) : List Int := (List.range n).map f
theorem wornL_len (n : Nat) (f : Nat → Int) : (wornL n f).length = n := by simp [wornL]
theorem wornL_succ (n : Nat) (f : Nat → Int) : wornL (n + 1) f = wornL n f ++ [f n] := by simp [wornL, List.range_succ]
theorem wornL_get (n : Nat) (f : Nat → Int) (i : Nat) (h : i < n) : (intVs (wornL n f))[i]? = some (.int .i64 (f i)) := by simp [wornL, intVs, h]
theorem wornL_set (n : Nat) (f : Nat → Int) (i : Nat) (m : Int) : (intVs (wornL n f)).set i (.int .i64 m) = intVs (wornL n (updI f i m)) := by
  apply List.ext_getElem?
  intro j
  rw [List.getElem?_set]
  by_cases h : j < n
  · rw [wornL_get _ _ _ h]
    by_cases hi : i = j
    · subst hi
      simp [updI, intVs, wornL, h]
    · rw [if_neg hi, wornL_get _ _ _ h, updI, if_neg (fun e => hi e.symm)]
  · have h1 : (intVs (wornL n (updI f i m)))[j]? = none := by simp [intVs, wornL]; omega
    have h2 : (intVs (wornL n f))[j]? = none := by simp [intVs, wornL]; omega
    rw [h1, h2]
    split
    · next e => subst e; simp [intVs, wornL, h]
    · rfl

/-- the state in block s: what each of n records is worn (a row of its own, from block B on), the age of the needle, the cost -/
def StAt (n B s : Nat) (u : Value) (x : St) (w : World) : Prop :=
  w.heap[s]? = some (.cells #[u, .int .i64 x.age, .int .i64 x.cost] 99 (0, 0)) ∧ w.ownsRow B 3 1 u n (intVs (wornL n x.worn))

/-- the cells of a box as a block -/
def bxO (X : Wr) (p : Option Addr) (c : Nat) (q : Option Addr) (d : Nat) : Obj := .cells #[.int .i64 X.weeks, .int .i64 X.price, .int .i64 X.age, .int .i64 X.step, .slice p X.rough.length c, .slice q X.recs.length d] 94

theorem heap3_0 (w : World) (o u t : Obj) : (((w.alloc o).alloc u).alloc t).heap[w.heap.size]? = some o := heap_old _ (heap_old _ (heap_new w o))
theorem heap3_1 (w : World) (o u t : Obj) : (((w.alloc o).alloc u).alloc t).heap[w.heap.size + 1]? = some u := by
  have := heap_new (w.alloc o) u
  rw [size_alloc] at this
  exact heap_old _ this
theorem heap3_2 (w : World) (o u t : Obj) : (((w.alloc o).alloc u).alloc t).heap[w.heap.size + 2]? = some t := by
  have := heap_new ((w.alloc o).alloc u) t
  simpa only [size_alloc] using this

set_option maxRecDepth 20000 in
set_option maxHeartbeats 3200000 in
theorem run03 (X : Wr) (p q pp : Option Addr) (c d pc pn s : Nat) (w : World)
    (hX : ValidW X) (hs : w.heap[s]? = some (.cells #[.slice none 0 0, .int .i64 0, .int .i64 0] 99 (0, 0))) (hRs : ∀ w', Fr (fun k => k = s) w w' → RecsAt w' q X.recs) :
    Calls Try.prog 36 #[.agg #[.int .i64 X.weeks, .int .i64 X.price, .int .i64 X.age, .int .i64 X.step, .slice p X.rough.length c, .slice q X.recs.length d], .pointer (some ⟨s, 0, none⟩), .slice pp pn pc] w fun e w' =>
      e = .returned (.func (.func 52) #[] #[.pointer (some ⟨w.heap.size + 2, 0, none⟩), .pointer (some ⟨w.heap.size + 1, 0, none⟩), .pointer (some ⟨w.heap.size, 0, none⟩)]) ∧
      w'.heap[w.heap.size]? = some (bxO X p c q d) ∧ w'.heap[w.heap.size + 1]? = some (.cells #[.pointer (some ⟨s, 0, none⟩)] 102) ∧ w'.heap[w.heap.size + 2]? = some (.cells #[.slice pp pn pc] 65) ∧
      (∃ u, StAt X.recs.length (w.heap.size + 3) s u (startW X) w') ∧ Fr (fun k => k = s) w w' := by
  have hsw : s < w.heap.size := (Array.getElem?_eq_some_iff.1 hs).1
  obtain ⟨i0, hi, hz0, hz1, hz2⟩ := info_parts info_a
  have h4 := hX.recs
  have HRS := Lib.hid hRs
  clear hRs
  go_enter Try.func36, Try.ntmps36
  go_upto_region 1 with (fail)
  obtain ⟨W, hW⟩ : ∃ W, W = ((w.alloc (bxO X p c q d)).alloc (.cells #[.pointer (some ⟨s, 0, none⟩)] 102)).alloc (.cells #[.slice pp pn pc] 65) := ⟨_, rfl⟩
  have g0 : W.heap[w.heap.size]? = some (bxO X p c q d) := by rw [hW]; exact heap3_0 _ _ _ _
  have g1 : W.heap[w.heap.size + 1]? = some (.cells #[.pointer (some ⟨s, 0, none⟩)] 102) := by rw [hW]; exact heap3_1 _ _ _ _
  have g2 : W.heap[w.heap.size + 2]? = some (.cells #[.slice pp pn pc] 65) := by rw [hW]; exact heap3_2 _ _ _ _
  have hE : Ext w W := by rw [hW]; exact Ext.alloc (Ext.alloc (Ext.alloc (Ext.refl w) _) _) _
  have hsW : W.heap.size = w.heap.size + 3 := by rw [hW]; simp only [size_alloc]
  have hs1 := (Below.block hE s hsw).trans hs
  unfold bxO at hW g0
  rw [← hW]
  have c0 := cell_of_heap hs1 0
  have c1 := cell_of_heap hs1 1
  have f1 := cell_frozen hs1 1
  have k2 := cell_of_heap g0 2
  have k5 := cell_of_heap g0 5
  have j0 := cell_of_heap g1 0
  simp at c0 c1 k2 k5 j0
  have HS1 := Lib.hid hs1
  have HE := Lib.hid hE
  have HG0 := Lib.hid g0
  have HG1 := Lib.hid g1
  have HG2 := Lib.hid g2
  clear hW hs hs1 hE g0 g1 g2
  go_wp2
  obtain ⟨W1, hW1⟩ : ∃ W1, W1 = W.setCell ⟨s, 1, none⟩ (.int .i64 X.age) := ⟨_, rfl⟩
  rw [← hW1]
  have hs2 : W1.heap[s]? = some (.cells #[.slice none 0 0, .int .i64 X.age, .int .i64 0] 99 (0, 0)) := by rw [hW1]; exact heap_set HS1.out rfl
  have hF1 : Fr (fun k => k = s) W W1 := by rw [hW1]; exact (Fr.refl _ _).set rfl
  have HS2 := Lib.hid hs2
  have HF1 := Lib.hid hF1
  clear hW1 hs2 hF1 c0 c1 f1 HS1
  have q5 : ∀ z, Fr (fun k => k = s) W z → z.cell? ⟨w.heap.size, 5, none⟩ = some (.slice q X.recs.length d) := fun z hz => hz.cell k5 (by omega)
  have q0 : ∀ z, Fr (fun k => k = s) W z → z.cell? ⟨w.heap.size + 1, 0, none⟩ = some (.pointer (some ⟨s, 0, none⟩)) := fun z hz => hz.cell j0 (by omega)
  have Q5 := Lib.hid q5
  have Q0 := Lib.hid q0
  have p5 := q5 W1 HF1.out
  clear q5 q0 k2 k5 j0
  go_wp2
  go_loopw [19] (fun i wr => ∃ k : Nat, k ≤ X.recs.length ∧ i = .int .i64 k ∧ ∃ u, wr.heap[s]? = some (.cells #[u, .int .i64 X.age, .int .i64 0] 99 (0, 0)) ∧ wr.ownsRow (w.heap.size + 3) 3 1 u k (intVs (wornL k (startW X).worn)) ∧ Fr (fun k => k = s) W wr) (fun i _ => X.recs.length - (intOf i).toNat)
  case atStart => exact ⟨0, by omega, rfl, _, HS2.out, World.ownsRow_nil _ _ _ _, HF1.out⟩
  case round =>
    clear p5 HS2 HF1
    clear W1
    obtain ⟨k, hk, rfl, u, hs, ho, hF⟩ := hrel
    have HS := Lib.hid hs
    have HO := Lib.hid ho
    have HF := Lib.hid hF
    have hsr := (Array.getElem?_eq_some_iff.1 hs).1
    have hWr := hF.size
    clear hs ho hF
    by_cases hlt : k < X.recs.length
    · obtain ⟨b, o, q', c', rfl, r1, r2, r3, r4, -⟩ := HRS.out wr ((HE.out.fr _).trans HF.out) k hlt
      have hst : (startW X).worn k = X.recs[k].worn := by simp [startW, recW, List.getD, hlt]
      obtain ⟨rw', hrw⟩ : ∃ n, n = X.recs[k].worn := ⟨_, rfl⟩
      obtain ⟨v2, hv2⟩ : ∃ n, n = X.recs[k].limit := ⟨_, rfl⟩
      obtain ⟨v3, hv3⟩ : ∃ n, n = X.recs[k].price := ⟨_, rfl⟩
      obtain ⟨v4, hv4⟩ : ∃ n, n = X.recs[k].plays.length := ⟨_, rfl⟩
      rw [← hrw] at r1 hst
      rw [← hv2] at r2
      rw [← hv3] at r3
      rw [← hv4] at r4
      have HST := Lib.hid hst
      clear hst hrw hv2 hv3 hv4
      go_upto_region 5 with (fail)
      obtain ⟨W5, hW5⟩ : ∃ W5, W5 = wr.alloc (.cells #[.int .i64 rw', .int .i64 v2, .int .i64 v3, .slice q' v4 c'] 59) := ⟨_, rfl⟩
      have hn := heap_new wr (.cells #[.int .i64 rw', .int .i64 v2, .int .i64 v3, .slice q' v4 c'] 59)
      have hE5 : Ext wr W5 := by rw [hW5]; exact Ext.alloc (Ext.refl _) _
      have hs5 : W5.heap.size = wr.heap.size + 1 := by rw [hW5]; simp only [size_alloc]
      rw [← hW5] at hn ⊢
      have HE5 := Lib.hid hE5
      have hm1 : k + 1 ≤ maxLen := by unfold maxLen; omega
      have hm2 : (k + 1) * 8 ≤ 140737488355328 := by omega
      have HS0 : Hid (∀ z, Ext W5 z → z.cell? ⟨w.heap.size + 1, 0, none⟩ = some (.pointer (some ⟨s, 0, none⟩)) ∧ z.cell? ⟨s, 0, none⟩ = some u ∧ z.cell? ⟨wr.heap.size, 0, none⟩ = some (.int .i64 rw')) := Lib.hid fun z hz =>
        ⟨Q0.out z (HF.out.trans ((hE5.trans hz).fr _)), (hE5.trans hz).cell ((cell_of_heap HS.out 0).trans rfl), hz.cell ((cell_of_heap hn 0).trans rfl)⟩
      obtain ⟨H, hH⟩ : ∃ H, H = wr.heap.size := ⟨_, rfl⟩
      rw [← hH] at HS0 ⊢
      have HH := Lib.hid hH
      have hub : ∀ g, u.ownBlock = some g → g ≠ s ∧ w.heap.size + 3 ≤ g ∧ g < wr.heap.size := fun g hg => by
        have := HO.out.lt g hg
        exact ⟨by omega, this.1, this.2⟩
      have HUB := Lib.hid hub
      clear hW5 hn hE5 r1 r2 r3 r4 hH hub
      refine wp_region_heldT (fun z => z.cell? ⟨w.heap.size + 1, 0, none⟩ = some (.pointer (some ⟨s, 0, none⟩)) ∧ z.cell? ⟨s, 0, none⟩ = some u ∧ z.cell? ⟨H, 0, none⟩ = some (.int .i64 rw')) 11
        [(true, 0), (true, 1), (true, 2), (true, 3), (true, 4), (true, 5), (true, 6), (false, 7), (false, 8), (true, 9), (true, 10)] (by kernel_rfl) (by kernel_rfl) (HS0.out _ (Ext.refl _).drew) ?_
      simp only [List.map_cons, List.map_nil, List.getElem?_cons_zero, List.getElem?_cons_succ]
      repeat (refine wpHL_take (v := ?_) (by rfl) ?_ (fun _ _ _ h => h) ?_; rotate_left 1; (intro z hz; (try dsimp only at hz); go_simp; (try with_reducible rfl)); simp only [Act.put, List.setIfInBounds_toArray, List.set_cons_zero, List.set_cons_succ])
      refine wpHL_step (fun K hK => ?_)
      go_simp
      refine hK.out _ _ (HS0.out _ (by repeat (first | exact Ext.refl _ | refine Ext.alloc ?_ _ | refine Ext.drew ?_))) ?_
      clear hK K
      try simp only [Act.put, List.setIfInBounds_toArray, List.set_cons_zero, List.set_cons_succ]
      refine wpHL_step (fun K hK => ?_)
      refine step_append_lies _ rfl (.tmp 27) (.tmp 30) 26 rfl (w.heap.size + 3) 3 i0 (.int .i64 0) 1 8 Try.underlying26 hi hz0 hz1 hz2 rfl (by decide) _ k (intVs (wornL k (startW X).worn)) rfl (ownsRow_ext HO.out (HE5.out.trans (by repeat (first | exact Ext.refl _ | refine Ext.alloc ?_ _ | refine Ext.drew ?_)))) ⟨_, 0, none⟩ 1 1 [.int .i64 rw'] rfl rfl ?_ (one_int _) (by decide) hm1 hm2 ?_ _ rfl ?_
      · exact hnewsE (by repeat (first | exact Ext.refl _ | refine Ext.drew ?_)) hs5.symm
      · have := HE5.out.size
        show _ ≤ (W5.alloc _).heap.size
        rw [size_alloc]
        omega
      intro g cap w8 hown hgr hat hlt8
      have hF8 : Fr (fun k => u.ownBlock = some k) W5 w8 := Fr.trans (Ext.fr (by repeat (first | exact Ext.refl _ | refine Ext.alloc ?_ _ | refine Ext.drew ?_)) _) (grown_fr hgr)
      have hus : ¬ u.ownBlock = some s := fun e => (HUB.out s e).1 rfl
      have huH : ¬ u.ownBlock = some H := fun e => by have := (HUB.out H e).2.2; have := HH.out; omega
      have huw : ¬ u.ownBlock = some (w.heap.size + 1) := fun e => by have := (HUB.out _ e).2.1; omega
      have hSz := HS0.out W5 (Ext.refl _)
      refine hK.out _ _ ⟨hF8.cell hSz.1 huw, hF8.cell hSz.2.1 hus, hF8.cell hSz.2.2 huH⟩ ?_
      clear hK K
      try simp only [Act.put, List.setIfInBounds_toArray, List.set_cons_zero, List.set_cons_succ]
      have hs8 := (hF8.block s (by omega) hus).trans ((Below.block HE5.out s (by omega)).trans HS.out)
      have HF8 : Hid (Fr (fun k => k = s ∨ W.heap.size ≤ k) W w8) := Lib.hid (((HF.out.mono (fun k h => .inl h)).trans (HE5.out.fr _)).trans (hF8.mono fun k h => .inr (by have := (HUB.out k h).2.1; omega)))
      have HS8 := Lib.hid hs8
      have hown8 : w8.ownsRow (w.heap.size + 3) 3 1 (.slice (some ⟨g, 0, none⟩) (k + 1) cap) (k + 1) (intVs (wornL (k + 1) (startW X).worn)) := by
        rw [wornL_succ, intVs_snoc, HST.out]; exact hown
      have HO8 := Lib.hid hown8
      have hgs : g ≠ s := fun e => by have := hown8.lt g rfl; omega
      clear hown hgr hat hF8 hSz hown8 hus huH huw
      repeat (refine wpHL_take (v := ?_) (by rfl) ?_ (fun _ _ _ h => h) ?_; rotate_left 1; (intro z hz; (try dsimp only at hz); go_simp; (try with_reducible rfl)); simp only [Act.put, List.setIfInBounds_toArray, List.set_cons_zero, List.set_cons_succ])
      refine wpHL_nil ?_
      simp only [List.drop_succ_cons, List.drop_zero]
      have a0 := cell_of_heap hs8 0
      have b0 := cell_frozen hs8 0
      simp at a0
      clear hs8
      go_wp2
      go_roundw
      case rel =>
        refine ⟨k + 1, by omega, by go_num, _, heap_set HS8.out rfl, ownsRow_fr HO8.out (E := fun k => k = s) ((Fr.refl _ _).set rfl) (fun g' hg' e => ?_), ?_⟩
        · cases hg'
          exact hgs e
        · have h1 := HF8.out
          have h2 : Fr (fun k => k = s) w8 (w8.setCell ⟨s, 0, none⟩ (.slice (some ⟨g, 0, none⟩) (k + 1) cap)) := (Fr.refl _ _).set rfl
          exact h1.low.trans h2
      case measure => simp [intOf]; omega
    · obtain rfl : k = X.recs.length := by omega
      go_wp2
      go_ret
      have hwF : Fr (fun k => k = s) w wr := (HE.out.fr _).trans HF.out
      exact ⟨rfl, (HF.out.block _ (by omega) (by omega)).trans HG0.out, (HF.out.block _ (by omega) (by omega)).trans HG1.out, (HF.out.block _ (by omega) (by omega)).trans HG2.out, ⟨u, HS.out, HO.out⟩, hwF⟩
end Go.Proofs.Ytppncdbhebgcaaa.We
namespace Go.Proofs.Ytppncdbhebgcaaa.We
open Go.RowKit
attribute [local go_sem] Oper.semAt_some

/-- the blocks of the state -/
def Dst (s : Nat) (u : Value) (k : Nat) : Prop := k = s ∨ u.ownBlock = some k
/-- what the iterator says ahead of each yield -/
def Sst (X : Wr) (l : List Wk) (B s : Nat) (u : Value) (xs : List Nat) (W : World) : Prop := xs = List.range xs.length ∧ StAt X.recs.length B s u (runTo X l xs.length) W
theorem StAt.fr {n B s : Nat} {u : Value} {x : St} {E : Nat → Prop} {w w' : World} (h : StAt n B s u x w) (hF : Fr E w w') (h1 : ¬E s) (h2 : ∀ g, u.ownBlock = some g → ¬E g) : StAt n B s u x w' :=
  ⟨(hF.block s (Array.getElem?_eq_some_iff.1 h.1).1 h1).trans h.1, ownsRow_fr h.2 hF h2⟩
/-- what the blocks of the iterator hold, over a world a in which the arguments lay -/
structure ItAt (X : Wr) (l : List Wk) (p q pp : Option Addr) (c d pc b s : Nat) (a W : World) : Prop where
  box : W.heap[b]? = some (bxO X p c q d)
  ptr : W.heap[b + 1]? = some (.cells #[.pointer (some ⟨s, 0, none⟩)] 102)
  plan : W.heap[b + 2]? = some (.cells #[.slice pp l.length pc] 65)
  ext : Ext a W
theorem ItAt.fr {X : Wr} {l : List Wk} {p q pp : Option Addr} {c d pc b s : Nat} {a w W : World} {E : Nat → Prop} (h : ItAt X l p q pp c d pc b s a w) (hF : Fr E w W) (h0 : ¬E b) (h1 : ¬E (b + 1)) (h2 : ¬E (b + 2)) (ha : ∀ k, E k → a.heap.size ≤ k) : ItAt X l p q pp c d pc b s a W :=
  ⟨(hF.block b (Array.getElem?_eq_some_iff.1 h.box).1 h0).trans h.box, (hF.block _ (Array.getElem?_eq_some_iff.1 h.ptr).1 h1).trans h.ptr, (hF.block _ (Array.getElem?_eq_some_iff.1 h.plan).1 h2).trans h.plan, Fr.ext h.ext hF ha⟩

set_option maxRecDepth 20000 in
set_option maxHeartbeats 6400000 in
theorem iter03 (X : Wr) (hX : ValidW X) (l : List Wk) (hl : PlanOK X l) (p q pp : Option Addr) (c d pc b B s : Nat) (u : Value) (w : World) (E : Nat → Prop) (lp : Nat)
    (wa : World) (hIt : ItAt X l p q pp c d pc b s wa w) (hR : RecsAt wa q X.recs) (hG : IntsAt wa p X.rough) (hP : WksAt wa pp l)
    (hst : StAt X.recs.length B s u (startW X) w) (hwas : wa.heap.size ≤ s) (hb : b + 2 < w.heap.size) (hsb : s < b) (hBb : b + 3 ≤ B)
    (hE : ∀ k, E k → k < w.heap.size ∧ ¬Dst s u k ∧ wa.heap.size ≤ k ∧ k ≠ b ∧ k ≠ b + 1 ∧ k ≠ b + 2)
    (J Jx : List Nat → World → Prop) (hJ : ∀ pre W W', J pre W → Fr (fun k => Dst s u k ∨ w.heap.size + 2 ≤ k) W W' → w.heap.size + 2 ≤ W.heap.size → J pre W')
    (hJx : ∀ pre W W', Jx pre W → Fr (fun k => Dst s u k ∨ w.heap.size + 2 ≤ k) W W' → w.heap.size + 2 ≤ W.heap.size → Jx pre W')
    (hY : YieldD Try.prog lp (fun k : Nat => .int .i64 (k : Int)) (fun k => k < l.length) E w.heap.size (Sst X l B s u) J Jx)
    (W : World) (hW : Ext w W) (hz : w.heap.size + 2 ≤ W.heap.size) (hj : J [] W) :
    Calls Try.prog 52 #[.func (.yield lp) #[] #[], .pointer (some ⟨b + 2, 0, none⟩), .pointer (some ⟨b + 1, 0, none⟩), .pointer (some ⟨b, 0, none⟩)] W fun e W' =>
      (∃ v, e = .returned v) ∧ ((J (List.range l.length) W' ∧ StAt X.recs.length B s u (runTo X l l.length) W') ∨ ∃ pre, pre <+: List.range l.length ∧ Jx pre W') ∧ w.heap.size + 2 ≤ W'.heap.size := by
  have hwk6 : l.length ≤ 6 := by have := hl.1; have := hX.weeks; omega
  have h4 := hX.recs
  have hss : s < w.heap.size := (Array.getElem?_eq_some_iff.1 hst.1).1
  have hug : ∀ g, u.ownBlock = some g → B ≤ g ∧ g < w.heap.size := fun g hg => hst.2.lt g hg
  have HIT : Hid (∀ W, Fr (fun k => Dst s u k ∨ E k ∨ w.heap.size ≤ k) w W → ItAt X l p q pp c d pc b s wa W) := Lib.hid fun W hF => by
    refine hIt.fr hF ?_ ?_ ?_ ?_
    · rintro ((h | h) | h | h)
      · omega
      · have := hug _ h; omega
      · exact (hE _ h).2.2.2.1 rfl
      · omega
    · rintro ((h | h) | h | h)
      · omega
      · have := hug _ h; omega
      · exact (hE _ h).2.2.2.2.1 rfl
      · omega
    · rintro ((h | h) | h | h)
      · omega
      · have := hug _ h; omega
      · exact (hE _ h).2.2.2.2.2 rfl
      · omega
    · rintro k ((h | h) | h | h)
      · omega
      · have := hug _ h; omega
      · exact (hE _ h).2.2.1
      · omega
  have HRA := Lib.hid hR
  have HGA := Lib.hid hG
  have HPA := Lib.hid hP
  have HEE := Lib.hid hE
  have HJ := Lib.hid hJ
  have HJX := Lib.hid hJx
  have HY := Lib.hid hY
  have HUG := Lib.hid hug
  have HX := Lib.hid hX
  have HL := Lib.hid hl
  have HST := Lib.hid hst
  have HJ0 := Lib.hid hj
  have HW := Lib.hid hW
  have hI0 := HIT.out W (hW.fr _)
  have hpl := cell_of_heap hI0.plan 0
  simp at hpl
  clear hIt hE hJ hJx hY hug hX hl hst hj hW hI0 hR hG hP
  go_enter Try.func52, Try.ntmps52
  go_wp2
  go_loopw [13] (fun i wr => ∃ k : Nat, k ≤ l.length ∧ i = .int .i64 k ∧ StAt X.recs.length B s u (runTo X l k) wr ∧ J (List.range k) wr ∧ Fr (fun k => Dst s u k ∨ E k ∨ w.heap.size ≤ k) w wr ∧ w.heap.size + 2 ≤ wr.heap.size) (fun i _ => l.length - (intOf i).toNat)
  case atStart => exact ⟨0, by omega, rfl, HST.out.fr (HW.out.fr (fun _ => False)) (fun h => h) (fun _ _ h => h), HJ0.out, HW.out.fr _, hz⟩
  case round =>
    clear hpl HST HJ0 HW hz
    clear W
    obtain ⟨k, hk, rfl, hst, hj, hF, hz⟩ := hrel
    have HST := Lib.hid hst
    have HJK := Lib.hid hj
    have HF := Lib.hid hF
    have hIt := HIT.out wr hF
    have HI := Lib.hid hIt
    clear hst hj hF
    by_cases hlt : k < l.length
    · obtain ⟨pb, po, rq, rc, rfl, w1', w2', w3⟩ := HPA.out k hlt
      have w1 := hIt.ext.cell w1'
      have w2 := hIt.ext.cell w2'
      clear w1' w2'
      have hok := runTo_ok HX.out HL.out k hk
      have hwk := HL.out.2 _ (List.getElem_mem hlt)
      have hwka := wkAt_eq hlt
      obtain ⟨pk, hpk⟩ : ∃ pk, pk = l[k] := ⟨_, rfl⟩
      rw [← hpk] at w1 w2 w3 hwk hwka
      obtain ⟨x, hx⟩ : ∃ x, x = runTo X l k := ⟨_, rfl⟩
      rw [← hx] at hok
      have HXK := Lib.hid hx
      have HOK := Lib.hid hok
      have HWK := Lib.hid hwk
      have HWA := Lib.hid hwka
      rw [← hx] at HST
      clear hIt hpk hx hok hwk hwka
      go_upto_region 3 with (fail)
      obtain ⟨H, hH⟩ : ∃ H, H = wr.heap.size := ⟨_, rfl⟩
      have hn := heap_new wr (.cells #[.int .i64 pk.needle, .slice rq pk.recs.length rc] 64)
      obtain ⟨W1, hW1⟩ : ∃ W1, W1 = wr.alloc (.cells #[.int .i64 pk.needle, .slice rq pk.recs.length rc] 64) := ⟨_, rfl⟩
      have hE1 : Ext wr W1 := by rw [hW1]; exact Ext.alloc (Ext.refl _) _
      have hs1 : W1.heap.size = H + 1 := by rw [hW1, hH]; simp only [size_alloc]
      rw [← hW1, ← hH] at hn
      rw [← hW1, ← hH]
      have HN := Lib.hid hn
      have HE1 := Lib.hid hE1
      have HH := Lib.hid hH
      have hn0 := cell_of_heap hn 0
      simp at hn0
      clear hW1 hn hE1 hH w1 w2
      have HGG : Hid (∀ A C, Fr (Dst s u) A C → Fr (fun k => Dst s u k ∨ E k ∨ w.heap.size ≤ k) A C) := Lib.hid fun A C h => h.mono fun _ h => .inl h
      have HF1 : Hid (Fr (fun k => Dst s u k ∨ E k ∨ w.heap.size ≤ k) w W1) := Lib.hid (HF.out.trans (HE1.out.fr _))
      have HST1 : Hid (StAt X.recs.length B s u x W1) := Lib.hid (HST.out.fr (HE1.out.fr (fun _ => False)) (fun h => h) (fun _ _ h => h))
      have HD : Hid (∀ g, Dst s u g → g < w.heap.size ∧ g ≠ H ∧ g ≠ b ∧ g ≠ b + 1 ∧ g ≠ b + 2) := Lib.hid fun g hg => by
        have := HH.out
        rcases hg with rfl | hg
        · exact ⟨by omega, by omega, by omega, by omega, by omega⟩
        · have := HUG.out g hg
          exact ⟨by omega, by omega, by omega, by omega, by omega⟩
      have hx1 : ∀ x1, x1 = newW X pk x → StOK (9999 + 396 * k) (4995 * k + 999) (99999 + 39204 * k) x1 := fun x1 h => h ▸ new_ok HX.out pk HOK.out
      have HX1 := Lib.hid hx1
      clear hx1
      by_cases hq : pk.needle = 1
      · have hq' : (pk.needle == 1) = true := by simpa using hq
        have HQ := Lib.hid hq
        clear hq
        have hok := HOK.out
        have hpr := HX.out.price
        have hc := hok.cost
        have hI1 := HIT.out W1 HF1.out
        have d0 : ∀ z, Fr (fun k => k = s) W1 z → z.cell? ⟨b + 1, 0, none⟩ = some (.pointer (some ⟨s, 0, none⟩)) := fun z hz => hz.cell ((cell_of_heap hI1.ptr 0).trans rfl) (by omega)
        have d1 : ∀ z, Fr (fun k => k = s) W1 z → z.cell? ⟨b, 1, none⟩ = some (.int .i64 X.price) := fun z hz => hz.cell ((cell_of_heap hI1.box 1).trans rfl) (by omega)
        have d2 : W1.cell? ⟨s, 2, none⟩ = some (.int .i64 x.cost) := (cell_of_heap HST1.out.1 2).trans rfl
        have d3 : W1.cell? ⟨s, 1, none⟩ = some (.int .i64 x.age) := (cell_of_heap HST1.out.1 1).trans rfl
        have f1 := cell_frozen HST1.out.1 1
        have D0 := Lib.hid d0
        have D1 := Lib.hid d1
        have D2 := Lib.hid d2
        have hwr : IntKind.i64.wrap (x.cost + X.price) = x.cost + X.price := IntWalk.i64_in _ (by omega)
        clear hok hI1 d0 d1
        go_upto_region 4 with (fail)
        refine wp_region_heldT (fun z => z.cell? ⟨b + 1, 0, none⟩ = some (.pointer (some ⟨s, 0, none⟩)) ∧ z.cell? ⟨b, 1, none⟩ = some (.int .i64 X.price) ∧ z.cell? ⟨s, 2, none⟩ = some (.int .i64 x.cost)) 13
          [(true, 0), (true, 1), (true, 2), (true, 3), (true, 4), (true, 5), (true, 6), (true, 7), (true, 8), (true, 9), (true, 10), (true, 11), (false, 12)] (by kernel_rfl) (by kernel_rfl) ⟨D0.out _ (Fr.refl _ _).drew, D1.out _ (Fr.refl _ _).drew, D2.out⟩ ?_
        simp only [List.map_cons, List.map_nil, List.getElem?_cons_zero, List.getElem?_cons_succ]
        repeat (refine wpHL_take (v := ?_) (by rfl) ?_ (fun _ _ _ h => h) ?_; rotate_left 1; (intro z hz; (try dsimp only at hz); go_simp; (try with_reducible rfl)); simp only [Act.put, List.setIfInBounds_toArray, List.set_cons_zero, List.set_cons_succ])
        refine wpHL_step (fun K hK => ?_)
        go_simp
        refine hK.out _ _ ⟨D0.out _ ((Fr.refl _ _).drew.set rfl), D1.out _ ((Fr.refl _ _).drew.set rfl), ?_⟩ ?_
        · show (W1.setCell _ _).cell? _ = _
          rw [World.cell?_setCell_other _ _ _ _ (by simp)]
          exact D2.out
        clear hK K
        try simp only [Act.put, List.setIfInBounds_toArray, List.set_cons_zero, List.set_cons_succ]
        refine wpHL_nil ?_
        simp only [List.drop_succ_cons, List.drop_zero]
        generalize hW1' : World.drew (World.setCell _ _ _) = W1'
        have hs1' : W1'.heap[s]? = some (.cells #[u, .int .i64 0, .int .i64 x.cost] 99 (0, 0)) := by rw [← hW1']; exact heap_drew (heap_set HST1.out.1 rfl)
        have hF1' : Fr (fun k => k = s) W1 W1' := by rw [← hW1']; exact ((Fr.refl (fun k => k = s) W1).set rfl).drew
        have HS1' := Lib.hid hs1'
        have HF1' := Lib.hid hF1'
        have g0 := D0.out _ hF1'
        have g1 := cell_frozen hs1' 2
        have g2 : W1'.cell? ⟨s, 2, none⟩ = some (.int .i64 x.cost) := (cell_of_heap hs1' 2).trans rfl
        clear hW1' hs1' hF1' d2 d3 f1 D0 D1 D2
        go_upto_region 5 with (fail)
        generalize hW2' : World.setCell _ _ _ = W2
        have hs2 : W2.heap[s]? = some (.cells #[u, .int .i64 0, .int .i64 (x.cost + X.price)] 99 (0, 0)) := by rw [← hW2']; exact heap_set HS1'.out rfl
        have hF2 : Fr (fun k => k = s) W1 W2 := by rw [← hW2']; exact HF1'.out.set rfl
        have HS2 : Hid (StAt X.recs.length B s u (newW X pk x) W2) := Lib.hid (by rw [newW, if_pos HQ.out]; exact ⟨hs2, ownsRow_fr HST1.out.2 hF2 (fun g hg e => by have := HUG.out g hg; omega)⟩)
        have HFD : Hid (Fr (Dst s u) W1 W2) := Lib.hid (hF2.mono fun k h => .inl h)
        clear hW2' hs2 hF2 HS1' HF1' g0 g1 g2
        clear W1'
        obtain ⟨x1, hx1⟩ : ∃ x1, x1 = newW X pk x := ⟨_, rfl⟩
        rw [← hx1] at HS2
        have HO1 := Lib.hid (HX1.out x1 hx1)
        have HX1E := Lib.hid hx1
        clear hx1
        have hHH : ∀ z, Fr (Dst s u) W1 z → z.cell? ⟨H, 1, none⟩ = some (.slice rq pk.recs.length rc) := fun z hz => hz.cell ((cell_of_heap HN.out 1).trans rfl) (fun h => (HD.out H h).2.1 rfl)
        have hc1 := hHH W2 HFD.out
        have hri := HWK.out.1.len
        clear hHH hn0
        go_wp2
        go_loopw [38] (fun i wr => ∃ j : Nat, j ≤ pk.recs.length ∧ i = .int .i64 j ∧ StAt X.recs.length B s u ((pk.recs.take j).foldl (repW X) x1) wr ∧ Fr (Dst s u) W1 wr) (fun i _ => pk.recs.length - (intOf i).toNat)
        case atStart => exact ⟨0, by omega, rfl, HS2.out, HFD.out⟩
        case round =>
          clear hc1 HS2 HFD
          clear W2
          obtain ⟨j, hjl, rfl, hst2, hF2⟩ := hrel
          have HS2 := Lib.hid hst2
          have HFD := Lib.hid hF2
          have hI2 := HIT.out wr (HF1.out.trans (HGG.out _ _ hF2))
          have HI2 := Lib.hid hI2
          clear hst2 hF2
          by_cases hlj : j < pk.recs.length
          · obtain ⟨nb, no, rfl, hnc'⟩ := w3.at j hlj
            have hnc := hI2.ext.cell hnc'
            have hin := HWK.out.1.1 j hlj
            obtain ⟨nn, hnn⟩ := Int.eq_ofNat_of_zero_le hin.1
            have hnl : nn < X.recs.length := by omega
            rw [hnn] at hnc
            obtain ⟨rb, ro, rq', rc', rfl, -, -, hpc', -, -⟩ := HRA.out nn hnl
            have hpc := hI2.ext.cell hpc'
            have hrbl := lt_of_cell hpc'
            have hrec : X.recs[nn].price = (recW X nn).price := by rw [recW_eq hnl]
            obtain ⟨g, cap, rfl, hgc⟩ := ownsRow_at HS2.out.2 nn hnl
            have hokr := reps_ok HX.out (pk.recs.take j) HO1.out
            have hsn : (pk.recs.take (j + 1)).foldl (repW X) x1 = repW X ((pk.recs.take j).foldl (repW X) x1) pk.recs[j] := by rw [List.take_succ_eq_append_getElem hlj, List.foldl_append]; rfl
            obtain ⟨x2, hx2⟩ : ∃ x2, x2 = (pk.recs.take j).foldl (repW X) x1 := ⟨_, rfl⟩
            rw [← hx2] at HS2 hokr hsn hgc
            rw [hnn] at hsn
            have hpb := (rec_bd HX.out nn)
            rw [hrec] at hpc
            obtain ⟨pr, hpr⟩ : ∃ pr, pr = (recW X nn).price := ⟨_, rfl⟩
            rw [← hpr] at hpc hpb
            have hco := hokr.cost
            have hwr : IntKind.i64.wrap (x2.cost + pr) = x2.cost + pr := by
              have : ((pk.recs.take j).length : Int) ≤ 4 := by rw [List.length_take]; omega
              exact IntWalk.i64_in _ (by omega)
            have hgB := HUG.out g rfl
            have hgc2 : wr.cell? ⟨g, nn, none⟩ = some (.int .i64 (x2.worn nn)) := hgc.trans (wornL_get _ _ _ hnl)
            have hgf : wr.frozen? ⟨g, nn, none⟩ = false := ownsRow_frozen HS2.out.2
            have hS : ∀ z, Fr (fun k => k = g) wr z → z.cell? ⟨b + 1, 0, none⟩ = some (.pointer (some ⟨s, 0, none⟩)) ∧ z.cell? ⟨s, 0, none⟩ = some (.slice (some ⟨g, 0, none⟩) X.recs.length cap) ∧ z.cell? ⟨s, 2, none⟩ = some (.int .i64 x2.cost) ∧ z.cell? ⟨b, 5, none⟩ = some (.slice (some ⟨rb, ro, none⟩) X.recs.length d) ∧ z.cell? ⟨rb, ro + nn * 4 + 2, none⟩ = some (.int .i64 pr) := fun z hz =>
              ⟨hz.cell ((cell_of_heap hI2.ptr 0).trans rfl) (by omega), hz.cell ((cell_of_heap HS2.out.1 0).trans rfl) (by omega), hz.cell ((cell_of_heap HS2.out.1 2).trans rfl) (by omega), hz.cell ((cell_of_heap hI2.box 5).trans rfl) (by omega), hz.cell hpc (by omega)⟩
            have HSS := Lib.hid hS
            have HSN := Lib.hid hsn
            have HPR := Lib.hid hpr
            have HX2 := Lib.hid hx2
            clear hI2 hnc' hin hnn hpc' hpc hrec hgc hokr hsn hx2 hpr hpb hS hco hgB hrbl
            go_upto_region 8 with (fail)
            refine wp_region_heldT (fun z => z.cell? ⟨b + 1, 0, none⟩ = some (.pointer (some ⟨s, 0, none⟩)) ∧ z.cell? ⟨s, 0, none⟩ = some (.slice (some ⟨g, 0, none⟩) X.recs.length cap) ∧ z.cell? ⟨s, 2, none⟩ = some (.int .i64 x2.cost) ∧ z.cell? ⟨b, 5, none⟩ = some (.slice (some ⟨rb, ro, none⟩) X.recs.length d) ∧ z.cell? ⟨rb, ro + nn * 4 + 2, none⟩ = some (.int .i64 pr)) 20
              [(true, 0), (true, 1), (true, 2), (true, 3), (true, 4), (true, 5), (true, 6), (true, 7), (true, 8), (true, 9), (true, 10), (true, 11), (true, 12), (true, 13), (true, 14), (true, 15), (true, 16), (true, 17), (true, 18), (false, 19)] (by kernel_rfl) (by kernel_rfl) (HSS.out _ (Fr.refl _ _).drew) ?_
            simp only [List.map_cons, List.map_nil, List.getElem?_cons_zero, List.getElem?_cons_succ]
            repeat (refine wpHL_take (v := ?_) (by rfl) ?_ (fun _ _ _ h => h) ?_; rotate_left 1; (intro z hz; (try dsimp only at hz); go_simp; (try with_reducible rfl)); simp only [Act.put, List.setIfInBounds_toArray, List.set_cons_zero, List.set_cons_succ])
            refine wpHL_step (fun K hK => ?_)
            go_simp
            refine hK.out _ _ (HSS.out _ ((Fr.refl (fun k => k = g) wr).set rfl).drew) ?_
            clear hK K
            try simp only [Act.put, List.setIfInBounds_toArray, List.set_cons_zero, List.set_cons_succ]
            refine wpHL_nil ?_
            simp only [List.drop_succ_cons, List.drop_zero]
            generalize hWa : World.drew (World.setCell _ _ _) = Wa
            have hgs : g ≠ s := by have := HUG.out g rfl; omega
            have hFa : Fr (fun k => k = g) wr Wa := by rw [← hWa]; exact ((Fr.refl (fun k => k = g) wr).set rfl).drew
            have hsa : Wa.heap[s]? = some (.cells #[.slice (some ⟨g, 0, none⟩) X.recs.length cap, .int .i64 x2.age, .int .i64 x2.cost] 99 (0, 0)) := (hFa.block s (Array.getElem?_eq_some_iff.1 HS2.out.1).1 (by omega)).trans HS2.out.1
            have hoa : Wa.ownsRow B 3 1 (.slice (some ⟨g, 0, none⟩) X.recs.length cap) X.recs.length (intVs (wornL X.recs.length (updI x2.worn nn 0))) := by
              rw [← hWa, ← wornL_set]
              exact (ownsRow_setV (i := nn) (u := .int .i64 0) HS2.out.2).drew
            have HSA := Lib.hid hsa
            have HOA := Lib.hid hoa
            have HFA := Lib.hid hFa
            have v0 := (HSS.out Wa hFa).1
            have v2 := (HSS.out Wa hFa).2.2.1
            have v3 := cell_frozen hsa 2
            clear hWa hFa hsa hoa hgc2 hgf hgs
            go_wp2
            go_roundw
            case rel =>
              refine ⟨j + 1, by omega, by go_num, ⟨?_, ?_⟩, ?_⟩
              · rw [HSN.out]
                refine heap_set HSA.out ?_
                rw [HPR.out]
                rfl
              · rw [HSN.out]
                exact ownsRow_fr (E := fun k => k = s) HOA.out ((Fr.refl _ _).set rfl) (fun g' hg' e => by have e' : g' = s := e; have h1 : g = g' := Option.some.inj hg'; have := HUG.out g rfl; omega)
              · exact (HFD.out.trans (HFA.out.mono fun k h => .inr (by rw [h]; rfl))).set (.inl rfl)
            case measure => simp [intOf]; omega
          · obtain rfl : j = pk.recs.length := by omega
            rw [List.take_length] at HS2
            obtain ⟨x3, hx3⟩ : ∃ x3, x3 = pk.recs.foldl (repW X) x1 := ⟨_, rfl⟩
            rw [← hx3] at HS2
            have HO3 := Lib.hid (show StOK _ _ _ x3 from hx3 ▸ reps_ok HX.out pk.recs HO1.out)
            have HX3 := Lib.hid hx3
            have b5 := (cell_of_heap hI2.box 5).trans rfl
            clear hx3 hI2 hlj hjl
            go_wp2
            go_loopw [68] (fun i wr => ∃ j : Nat, j ≤ X.recs.length ∧ i = .int .i64 j ∧ StAt X.recs.length B s u (playsTo X k x3 j) wr ∧ Fr (Dst s u) W1 wr) (fun i _ => X.recs.length - (intOf i).toNat)
            case atStart => exact ⟨0, by omega, rfl, HS2.out, HFD.out⟩
            case round =>
              clear b5 HS2 HFD HI2
              obtain ⟨j, hjl, rfl, hst2, hF2⟩ := hrel
              have HS2 := Lib.hid hst2
              have HFD := Lib.hid hF2
              have hI2 := HIT.out wr (HF1.out.trans (HGG.out _ _ hF2))
              have HI2 := Lib.hid hI2
              clear hst2 hF2
              by_cases hlj : j < X.recs.length
              · obtain ⟨rb, ro, qb', cb, rfl, r1', r2', r3', r4', r5'⟩ := HRA.out j hlj
                have r1 := hI2.ext.cell r1'
                have r2 := hI2.ext.cell r2'
                have r3 := hI2.ext.cell r3'
                have r4 := hI2.ext.cell r4'
                obtain ⟨hkp, hpe⟩ := plays_eq (wk := k) HX.out hlj (by have := HL.out.1; omega)
                obtain ⟨qb, qo, rfl, hpc'⟩ := r5'.at k hkp
                have hqbl := lt_of_cell hpc'
                have hpc := hI2.ext.cell hpc'
                have hpb := playsW_bd HX.out k j
                obtain ⟨pn, hpn⟩ := Int.eq_ofNat_of_zero_le hpb.1
                rw [← hpe, hpn] at hpc
                rw [hpn] at hpb
                obtain ⟨g, cap, rfl, hgc⟩ := ownsRow_at HS2.out.2 j hlj
                have hok4 := playsTo_ok HX.out k HO3.out j
                have hsn := playsTo_succ X k x3 j
                obtain ⟨x4, hx4⟩ : ∃ x4, x4 = playsTo X k x3 j := ⟨_, rfl⟩
                rw [← hx4] at HS2 hok4 hsn hgc
                have hgw := hgc.trans (wornL_get _ _ _ hlj)
                have hage := hok4.age
                have hwj := hok4.worn j
                have hgb := grindW_bd HX.out hage.1 pn
                have hgB := HUG.out g rfl
                obtain ⟨gr, hgr⟩ : ∃ gr, gr = grindW X x4.age pn := ⟨_, rfl⟩
                have hwr : IntKind.i64.wrap (x4.worn j + gr) = x4.worn j + gr := IntWalk.i64_in _ (by rw [hgr]; omega)
                obtain ⟨rl, hrl⟩ : ∃ rl, rl = X.recs[j].plays.length := ⟨_, rfl⟩
                rw [← hrl] at r4 hkp
                have HGR := Lib.hid hgr
                have HPN := Lib.hid hpn
                have HSN := Lib.hid hsn
                have HX4 := Lib.hid hx4
                clear r1' r2' r3' r4' r5' hpc' hpe hpn hgc hok4 hsn hx4 hgr hgb hrl hwj
                go_upto_region 13 with (fail)
                obtain ⟨H5, hH5⟩ : ∃ H5, H5 = wr.heap.size := ⟨_, rfl⟩
                have hn5 := heap_new wr (.cells #[.int .i64 X.recs[j].worn, .int .i64 X.recs[j].limit, .int .i64 X.recs[j].price, .slice (some ⟨qb, qo, none⟩) rl cb] 59)
                obtain ⟨W5, hW5⟩ : ∃ W5, W5 = wr.alloc (.cells #[.int .i64 X.recs[j].worn, .int .i64 X.recs[j].limit, .int .i64 X.recs[j].price, .slice (some ⟨qb, qo, none⟩) rl cb] 59) := ⟨_, rfl⟩
                have hE5 : Ext wr W5 := by rw [hW5]; exact Ext.alloc (Ext.refl _) _
                rw [← hW5, ← hH5] at hn5
                rw [← hW5, ← hH5]
                have hsl := (Array.getElem?_eq_some_iff.1 HS2.out.1).1
                have hH5s : H5 ≠ s := by omega
                have hS : ∀ z, Fr (fun k => k = s) W5 z → z.cell? ⟨s, 0, none⟩ = some (.slice (some ⟨g, 0, none⟩) X.recs.length cap) → z.cell? ⟨b + 1, 0, none⟩ = some (.pointer (some ⟨s, 0, none⟩)) ∧ z.cell? ⟨s, 0, none⟩ = some (.slice (some ⟨g, 0, none⟩) X.recs.length cap) ∧ z.cell? ⟨g, j, none⟩ = some (.int .i64 (x4.worn j)) ∧
                    (z.cell? ⟨b, 0, none⟩ = some (.int .i64 X.weeks) ∧ z.cell? ⟨b, 1, none⟩ = some (.int .i64 X.price) ∧ z.cell? ⟨b, 2, none⟩ = some (.int .i64 X.age) ∧ z.cell? ⟨b, 3, none⟩ = some (.int .i64 X.step) ∧ z.cell? ⟨b, 4, none⟩ = some (.slice p X.rough.length c) ∧ z.cell? ⟨b, 5, none⟩ = some (.slice (some ⟨rb, ro, none⟩) X.recs.length d)) ∧
                    z.cell? ⟨H5, 3, none⟩ = some (.slice (some ⟨qb, qo, none⟩) rl cb) ∧ z.cell? ⟨qb, qo + k, none⟩ = some (.int .i64 pn) := fun z hz hz0 =>
                  have hq : ∀ {i o : Nat} {y : Value}, wr.cell? ⟨i, o, none⟩ = some y → i ≠ s → z.cell? ⟨i, o, none⟩ = some y := fun h hn => hz.cell (hE5.cell h) hn
                  ⟨hq ((cell_of_heap hI2.ptr 0).trans rfl) (by omega), hz0, hq hgw (by omega),
                    ⟨hq ((cell_of_heap hI2.box 0).trans rfl) (by omega), hq ((cell_of_heap hI2.box 1).trans rfl) (by omega), hq ((cell_of_heap hI2.box 2).trans rfl) (by omega), hq ((cell_of_heap hI2.box 3).trans rfl) (by omega), hq ((cell_of_heap hI2.box 4).trans rfl) (by omega), hq ((cell_of_heap hI2.box 5).trans rfl) (by omega)⟩,
                    hz.cell ((cell_of_heap hn5 3).trans rfl) hH5s, hq hpc (by omega)⟩
                have hs5 : W5.heap[s]? = some (.cells #[.slice (some ⟨g, 0, none⟩) X.recs.length cap, .int .i64 x4.age, .int .i64 x4.cost] 99 (0, 0)) := (Below.block hE5 s hsl).trans HS2.out.1
                have hwa5 : Ext wa W5 := hI2.ext.trans hE5
                have HPL : Hid (∀ z, Ext W5 z → Calls Try.prog 53 #[.pointer (some ⟨s, 1, none⟩), .agg #[.int .i64 X.weeks, .int .i64 X.price, .int .i64 X.age, .int .i64 X.step, .slice p X.rough.length c, .slice (some ⟨rb, ro, none⟩) X.recs.length d], .int .i64 pn] z (PlayPost X s 1 #[.slice (some ⟨g, 0, none⟩) X.recs.length cap, .int .i64 x4.age, .int .i64 x4.cost] 99 x4.age pn z)) := Lib.hid fun z hz =>
                  play03 _ X s 1 _ _ x4.age pn z ⟨_, _, _, _, rfl, HGA.out.ext (hwa5.trans hz), HRA.out.ext (hwa5.trans hz)⟩ HX.out ((Below.block hz s (by have := hE5.size; omega)).trans hs5) rfl hage.1 (by omega) (by omega) (fun w' hw' => by
                    have h1 : Ext wa w' := Fr.ext (hwa5.trans hz) hw' (fun i hi => by omega)
                    exact ⟨_, _, _, _, rfl, HGA.out.ext h1, HRA.out.ext h1⟩)
                have HSS := Lib.hid hS
                have HS5 := Lib.hid hs5
                have HE5 := Lib.hid hE5
                have hO5 := ownsRow_ext HS2.out.2 hE5
                have HO5 := Lib.hid hO5
                have hS0 := hS _ (Fr.refl (fun k => k = s) W5).drew ((cell_of_heap hs5 0).trans rfl)
                have HS0 := Lib.hid hS0
                clear hW5 hH5 hn5 hE5 r1 r2 r3 r4 hpc hgw hI2 hS hs5 hwa5 hO5 hS0
                refine wp_region_heldT (fun z => z.cell? ⟨b + 1, 0, none⟩ = some (.pointer (some ⟨s, 0, none⟩)) ∧ z.cell? ⟨s, 0, none⟩ = some (.slice (some ⟨g, 0, none⟩) X.recs.length cap) ∧ z.cell? ⟨g, j, none⟩ = some (.int .i64 (x4.worn j)) ∧
                    (z.cell? ⟨b, 0, none⟩ = some (.int .i64 X.weeks) ∧ z.cell? ⟨b, 1, none⟩ = some (.int .i64 X.price) ∧ z.cell? ⟨b, 2, none⟩ = some (.int .i64 X.age) ∧ z.cell? ⟨b, 3, none⟩ = some (.int .i64 X.step) ∧ z.cell? ⟨b, 4, none⟩ = some (.slice p X.rough.length c) ∧ z.cell? ⟨b, 5, none⟩ = some (.slice (some ⟨rb, ro, none⟩) X.recs.length d)) ∧
                    z.cell? ⟨H5, 3, none⟩ = some (.slice (some ⟨qb, qo, none⟩) rl cb) ∧ z.cell? ⟨qb, qo + k, none⟩ = some (.int .i64 pn)) 17
                  [(true, 0), (true, 1), (true, 2), (true, 3), (true, 4), (true, 5), (true, 6), (true, 7), (true, 8), (true, 9), (true, 10), (true, 11), (true, 12), (true, 13), (true, 14), (true, 15), (false, 16)] (by kernel_rfl) (by kernel_rfl) HS0.out ?_
                simp only [List.map_cons, List.map_nil, List.getElem?_cons_zero, List.getElem?_cons_succ]
                repeat (refine wpHL_take (v := ?_) (by rfl) ?_ (fun _ _ _ h => h) ?_; rotate_left 1; (intro z hz; (try dsimp only at hz); go_simp; (try with_reducible rfl)); simp only [Act.put, List.setIfInBounds_toArray, List.set_cons_zero, List.set_cons_succ])
                refine wpHL_step (fun K hK => ?_)
                go_simp
                refine (HPL.out _ (by repeat (first | exact Ext.refl _ | refine Ext.drew ?_))).mono ?_
                rintro e w6 ⟨rfl, hs6, hF6⟩
                rw [← HGR.out]
                simp only [List.setIfInBounds_toArray, List.set_cons_succ, List.set_cons_zero] at hs6
                have hF65 : Fr (fun k => k = s) W5 w6 := (Ext.fr (Ext.refl W5).drew _).trans hF6
                have HF65 := Lib.hid hF65
                have HS6 := Lib.hid hs6
                clear hF6
                refine hK.out _ _ (HSS.out w6 hF65 ((cell_of_heap hs6 0).trans rfl)) ?_
                clear hK K hs6 hF65
                try simp only [Act.put, List.setIfInBounds_toArray, List.set_cons_zero, List.set_cons_succ]
                refine wpHL_nil ?_
                simp only [List.drop_succ_cons, List.drop_zero]
                have ho6 : w6.ownsRow B 3 1 (.slice (some ⟨g, 0, none⟩) X.recs.length cap) X.recs.length (intVs (wornL X.recs.length x4.worn)) := ownsRow_fr HO5.out HF65.out (fun g' hg' e => by have e' : g' = s := e; have h1 : g = g' := Option.some.inj hg'; omega)
                have hg6 : w6.cell? ⟨g, j, none⟩ = some (.int .i64 (x4.worn j)) := (HSS.out w6 HF65.out ((cell_of_heap HS6.out 0).trans rfl)).2.2.1
                have hf6 : w6.frozen? ⟨g, j, none⟩ = false := ownsRow_frozen ho6
                have HO6 := Lib.hid ho6
                clear ho6
                go_wp2
                go_roundw
                case rel =>
                  refine ⟨j + 1, by omega, by go_num, ⟨?_, ?_⟩, ?_⟩
                  · rw [HSN.out]
                    refine heap_set_ne (by omega) ?_
                    rw [HS6.out]
                    show _ = some (Obj.cells #[_, .int .i64 (x4.age + playsW X k j), _] _ _)
                    rw [HPN.out]
                    rfl
                  · rw [HSN.out]
                    show _ = _ ∧ _
                    have h1 := ownsRow_setV (i := j) (u := .int .i64 (x4.worn j + gr)) HO6.out
                    rw [wornL_set] at h1
                    have h2 : (playW X k x4 j).worn = updI x4.worn j (x4.worn j + gr) := by
                      show updI x4.worn j (x4.worn j + grindW X x4.age (playsW X k j).toNat) = _
                      rw [HPN.out, Int.toNat_natCast, ← HGR.out]
                    rw [h2]
                    exact h1
                  · exact ((HFD.out.trans (HE5.out.fr _)).trans (HF65.out.mono fun k h => .inl h)).set (.inr rfl)
                case measure => simp [intOf]; omega
              · obtain rfl : j = X.recs.length := by omega
                have hrun : runTo X l (k + 1) = playsTo X k x3 X.recs.length := by
                  show weekW X (runTo X l k) k (wkAt l k) = _
                  unfold weekW
                  rw [HWA.out, ← HXK.out, HX3.out, HX1E.out]
                have hJ6 := HJ.out _ _ wr HJK.out ((HE1.out.fr _).trans (HFD.out.mono fun k h => .inl h)) hz
                have hz6 : w.heap.size + 2 ≤ wr.heap.size := by have := HE1.out.size; have := HFD.out.size; omega
                have hS6 : Sst X l B s u (List.range k ++ [k]) wr := by
                  refine ⟨by simp [List.range_succ], ?_⟩
                  rw [show (List.range k ++ [k]).length = k + 1 from by simp, hrun]
                  exact HS2.out
                obtain ⟨fn, tmps, ag, bd, hy, hR⟩ := HY.out (List.range k) k wr hlt hJ6 hS6 hz6
                have hR' := Lib.hid hR
                have hy' := Lib.hid hy
                have HRUN := Lib.hid hrun
                clear hy hR hrun hJ6 hS6 hI2
                go_upto_region 15 with (fail)
                have hy := hy'.out
                refine (wpIn_wide (n := 0)).1 ?_
                gi_wp2
                refine ⟨rfl, hR'.out.mono ?_⟩
                rintro e W7 ⟨(⟨rfl, hj7⟩ | ⟨rfl, hj7⟩), hF7⟩
                · have HJ7 := Lib.hid hj7
                  have HF7 := Lib.hid hF7
                  clear hj7 hF7 hy
                  gi_wp2
                  go_wp2
                  go_roundw
                  case rel =>
                    refine ⟨k + 1, by omega, by go_num, ?_, ?_, ?_, ?_⟩
                    · rw [HRUN.out]
                      refine HS2.out.fr HF7.out ?_ ?_
                      · rintro (h | h)
                        · exact (HEE.out _ h).2.1 (.inl rfl)
                        · omega
                      · rintro g hg (h | h)
                        · exact (HEE.out _ h).2.1 (.inr hg)
                        · have := HUG.out g hg; omega
                    · rw [List.range_succ]; exact HJ7.out
                    · exact (HF1.out.trans (HGG.out _ _ HFD.out)).trans (HF7.out.mono fun i h => h.elim (fun h => .inr (.inl h)) (fun h => .inr (.inr (by omega))))
                    · have := HF7.out.size; omega
                  case measure => simp [intOf]; omega
                · have HJ7 := Lib.hid hj7
                  have HF7 := Lib.hid hF7
                  clear hj7 hF7 hy
                  gi_wp2
                  go_wp2
                  refine bodyPost_ret (results_none rfl _ _ _) rfl ?_
                  refine ⟨⟨_, rfl⟩, .inr ⟨_, ?_, HJ7.out⟩, by have := HF7.out.size; omega⟩
                  rw [← List.range_succ]
                  exact List.prefix_iff_eq_take.2 (by rw [List.length_range, List.take_range, Nat.min_eq_left (by omega)])
      · have hq' : (pk.needle == 1) = false := by simpa using hq
        have HQ := Lib.hid hq
        clear hq
        go_upto_region 5 with (fail)
        obtain ⟨W2, hW2⟩ : ∃ W2, W2 = W1 := ⟨_, rfl⟩
        conv => arg 5; rw [← hW2]
        have HS2 : Hid (StAt X.recs.length B s u (newW X pk x) W2) := Lib.hid (by rw [hW2, newW, if_neg HQ.out]; exact HST1.out)
        have HFD : Hid (Fr (Dst s u) W1 W2) := Lib.hid (by rw [hW2]; exact Fr.refl _ _)
        clear hW2
        obtain ⟨x1, hx1⟩ : ∃ x1, x1 = newW X pk x := ⟨_, rfl⟩
        rw [← hx1] at HS2
        have HO1 := Lib.hid (HX1.out x1 hx1)
        have HX1E := Lib.hid hx1
        clear hx1
        have hHH : ∀ z, Fr (Dst s u) W1 z → z.cell? ⟨H, 1, none⟩ = some (.slice rq pk.recs.length rc) := fun z hz => hz.cell ((cell_of_heap HN.out 1).trans rfl) (fun h => (HD.out H h).2.1 rfl)
        have hc1 := hHH W2 HFD.out
        have hri := HWK.out.1.len
        clear hHH hn0
        go_wp2
        go_loopw [38] (fun i wr => ∃ j : Nat, j ≤ pk.recs.length ∧ i = .int .i64 j ∧ StAt X.recs.length B s u ((pk.recs.take j).foldl (repW X) x1) wr ∧ Fr (Dst s u) W1 wr) (fun i _ => pk.recs.length - (intOf i).toNat)
        case atStart => exact ⟨0, by omega, rfl, HS2.out, HFD.out⟩
        case round =>
          clear hc1 HS2 HFD
          clear W2
          obtain ⟨j, hjl, rfl, hst2, hF2⟩ := hrel
          have HS2 := Lib.hid hst2
          have HFD := Lib.hid hF2
          have hI2 := HIT.out wr (HF1.out.trans (HGG.out _ _ hF2))
          have HI2 := Lib.hid hI2
          clear hst2 hF2
          by_cases hlj : j < pk.recs.length
          · obtain ⟨nb, no, rfl, hnc'⟩ := w3.at j hlj
            have hnc := hI2.ext.cell hnc'
            have hin := HWK.out.1.1 j hlj
            obtain ⟨nn, hnn⟩ := Int.eq_ofNat_of_zero_le hin.1
            have hnl : nn < X.recs.length := by omega
            rw [hnn] at hnc
            obtain ⟨rb, ro, rq', rc', rfl, -, -, hpc', -, -⟩ := HRA.out nn hnl
            have hpc := hI2.ext.cell hpc'
            have hrbl := lt_of_cell hpc'
            have hrec : X.recs[nn].price = (recW X nn).price := by rw [recW_eq hnl]
            obtain ⟨g, cap, rfl, hgc⟩ := ownsRow_at HS2.out.2 nn hnl
            have hokr := reps_ok HX.out (pk.recs.take j) HO1.out
            have hsn : (pk.recs.take (j + 1)).foldl (repW X) x1 = repW X ((pk.recs.take j).foldl (repW X) x1) pk.recs[j] := by rw [List.take_succ_eq_append_getElem hlj, List.foldl_append]; rfl
            obtain ⟨x2, hx2⟩ : ∃ x2, x2 = (pk.recs.take j).foldl (repW X) x1 := ⟨_, rfl⟩
            rw [← hx2] at HS2 hokr hsn hgc
            rw [hnn] at hsn
            have hpb := (rec_bd HX.out nn)
            rw [hrec] at hpc
            obtain ⟨pr, hpr⟩ : ∃ pr, pr = (recW X nn).price := ⟨_, rfl⟩
            rw [← hpr] at hpc hpb
            have hco := hokr.cost
            have hwr : IntKind.i64.wrap (x2.cost + pr) = x2.cost + pr := by
              have : ((pk.recs.take j).length : Int) ≤ 4 := by rw [List.length_take]; omega
              exact IntWalk.i64_in _ (by omega)
            have hgB := HUG.out g rfl
            have hgc2 : wr.cell? ⟨g, nn, none⟩ = some (.int .i64 (x2.worn nn)) := hgc.trans (wornL_get _ _ _ hnl)
            have hgf : wr.frozen? ⟨g, nn, none⟩ = false := ownsRow_frozen HS2.out.2
            have hS : ∀ z, Fr (fun k => k = g) wr z → z.cell? ⟨b + 1, 0, none⟩ = some (.pointer (some ⟨s, 0, none⟩)) ∧ z.cell? ⟨s, 0, none⟩ = some (.slice (some ⟨g, 0, none⟩) X.recs.length cap) ∧ z.cell? ⟨s, 2, none⟩ = some (.int .i64 x2.cost) ∧ z.cell? ⟨b, 5, none⟩ = some (.slice (some ⟨rb, ro, none⟩) X.recs.length d) ∧ z.cell? ⟨rb, ro + nn * 4 + 2, none⟩ = some (.int .i64 pr) := fun z hz =>
              ⟨hz.cell ((cell_of_heap hI2.ptr 0).trans rfl) (by omega), hz.cell ((cell_of_heap HS2.out.1 0).trans rfl) (by omega), hz.cell ((cell_of_heap HS2.out.1 2).trans rfl) (by omega), hz.cell ((cell_of_heap hI2.box 5).trans rfl) (by omega), hz.cell hpc (by omega)⟩
            have HSS := Lib.hid hS
            have HSN := Lib.hid hsn
            have HPR := Lib.hid hpr
            have HX2 := Lib.hid hx2
            clear hI2 hnc' hin hnn hpc' hpc hrec hgc hokr hsn hx2 hpr hpb hS hco hgB hrbl
            go_upto_region 8 with (fail)
            refine wp_region_heldT (fun z => z.cell? ⟨b + 1, 0, none⟩ = some (.pointer (some ⟨s, 0, none⟩)) ∧ z.cell? ⟨s, 0, none⟩ = some (.slice (some ⟨g, 0, none⟩) X.recs.length cap) ∧ z.cell? ⟨s, 2, none⟩ = some (.int .i64 x2.cost) ∧ z.cell? ⟨b, 5, none⟩ = some (.slice (some ⟨rb, ro, none⟩) X.recs.length d) ∧ z.cell? ⟨rb, ro + nn * 4 + 2, none⟩ = some (.int .i64 pr)) 20
              [(true, 0), (true, 1), (true, 2), (true, 3), (true, 4), (true, 5), (true, 6), (true, 7), (true, 8), (true, 9), (true, 10), (true, 11), (true, 12), (true, 13), (true, 14), (true, 15), (true, 16), (true, 17), (true, 18), (false, 19)] (by kernel_rfl) (by kernel_rfl) (HSS.out _ (Fr.refl _ _).drew) ?_
            simp only [List.map_cons, List.map_nil, List.getElem?_cons_zero, List.getElem?_cons_succ]
            repeat (refine wpHL_take (v := ?_) (by rfl) ?_ (fun _ _ _ h => h) ?_; rotate_left 1; (intro z hz; (try dsimp only at hz); go_simp; (try with_reducible rfl)); simp only [Act.put, List.setIfInBounds_toArray, List.set_cons_zero, List.set_cons_succ])
            refine wpHL_step (fun K hK => ?_)
            go_simp
            refine hK.out _ _ (HSS.out _ ((Fr.refl (fun k => k = g) wr).set rfl).drew) ?_
            clear hK K
            try simp only [Act.put, List.setIfInBounds_toArray, List.set_cons_zero, List.set_cons_succ]
            refine wpHL_nil ?_
            simp only [List.drop_succ_cons, List.drop_zero]
            generalize hWa : World.drew (World.setCell _ _ _) = Wa
            have hgs : g ≠ s := by have := HUG.out g rfl; omega
            have hFa : Fr (fun k => k = g) wr Wa := by rw [← hWa]; exact ((Fr.refl (fun k => k = g) wr).set rfl).drew
            have hsa : Wa.heap[s]? = some (.cells #[.slice (some ⟨g, 0, none⟩) X.recs.length cap, .int .i64 x2.age, .int .i64 x2.cost] 99 (0, 0)) := (hFa.block s (Array.getElem?_eq_some_iff.1 HS2.out.1).1 (by omega)).trans HS2.out.1
            have hoa : Wa.ownsRow B 3 1 (.slice (some ⟨g, 0, none⟩) X.recs.length cap) X.recs.length (intVs (wornL X.recs.length (updI x2.worn nn 0))) := by
              rw [← hWa, ← wornL_set]
              exact (ownsRow_setV (i := nn) (u := .int .i64 0) HS2.out.2).drew
            have HSA := Lib.hid hsa
            have HOA := Lib.hid hoa
            have HFA := Lib.hid hFa
            have v0 := (HSS.out Wa hFa).1
            have v2 := (HSS.out Wa hFa).2.2.1
            have v3 := cell_frozen hsa 2
            clear hWa hFa hsa hoa hgc2 hgf hgs
            go_wp2
            go_roundw
            case rel =>
              refine ⟨j + 1, by omega, by go_num, ⟨?_, ?_⟩, ?_⟩
              · rw [HSN.out]
                refine heap_set HSA.out ?_
                rw [HPR.out]
                rfl
              · rw [HSN.out]
                exact ownsRow_fr (E := fun k => k = s) HOA.out ((Fr.refl _ _).set rfl) (fun g' hg' e => by have e' : g' = s := e; have h1 : g = g' := Option.some.inj hg'; have := HUG.out g rfl; omega)
              · exact (HFD.out.trans (HFA.out.mono fun k h => .inr (by rw [h]; rfl))).set (.inl rfl)
            case measure => simp [intOf]; omega
          · obtain rfl : j = pk.recs.length := by omega
            rw [List.take_length] at HS2
            obtain ⟨x3, hx3⟩ : ∃ x3, x3 = pk.recs.foldl (repW X) x1 := ⟨_, rfl⟩
            rw [← hx3] at HS2
            have HO3 := Lib.hid (show StOK _ _ _ x3 from hx3 ▸ reps_ok HX.out pk.recs HO1.out)
            have HX3 := Lib.hid hx3
            have b5 := (cell_of_heap hI2.box 5).trans rfl
            clear hx3 hI2 hlj hjl
            go_wp2
            go_loopw [68] (fun i wr => ∃ j : Nat, j ≤ X.recs.length ∧ i = .int .i64 j ∧ StAt X.recs.length B s u (playsTo X k x3 j) wr ∧ Fr (Dst s u) W1 wr) (fun i _ => X.recs.length - (intOf i).toNat)
            case atStart => exact ⟨0, by omega, rfl, HS2.out, HFD.out⟩
            case round =>
              clear b5 HS2 HFD HI2
              obtain ⟨j, hjl, rfl, hst2, hF2⟩ := hrel
              have HS2 := Lib.hid hst2
              have HFD := Lib.hid hF2
              have hI2 := HIT.out wr (HF1.out.trans (HGG.out _ _ hF2))
              have HI2 := Lib.hid hI2
              clear hst2 hF2
              by_cases hlj : j < X.recs.length
              · obtain ⟨rb, ro, qb', cb, rfl, r1', r2', r3', r4', r5'⟩ := HRA.out j hlj
                have r1 := hI2.ext.cell r1'
                have r2 := hI2.ext.cell r2'
                have r3 := hI2.ext.cell r3'
                have r4 := hI2.ext.cell r4'
                obtain ⟨hkp, hpe⟩ := plays_eq (wk := k) HX.out hlj (by have := HL.out.1; omega)
                obtain ⟨qb, qo, rfl, hpc'⟩ := r5'.at k hkp
                have hqbl := lt_of_cell hpc'
                have hpc := hI2.ext.cell hpc'
                have hpb := playsW_bd HX.out k j
                obtain ⟨pn, hpn⟩ := Int.eq_ofNat_of_zero_le hpb.1
                rw [← hpe, hpn] at hpc
                rw [hpn] at hpb
                obtain ⟨g, cap, rfl, hgc⟩ := ownsRow_at HS2.out.2 j hlj
                have hok4 := playsTo_ok HX.out k HO3.out j
                have hsn := playsTo_succ X k x3 j
                obtain ⟨x4, hx4⟩ : ∃ x4, x4 = playsTo X k x3 j := ⟨_, rfl⟩
                rw [← hx4] at HS2 hok4 hsn hgc
                have hgw := hgc.trans (wornL_get _ _ _ hlj)
                have hage := hok4.age
                have hwj := hok4.worn j
                have hgb := grindW_bd HX.out hage.1 pn
                have hgB := HUG.out g rfl
                obtain ⟨gr, hgr⟩ : ∃ gr, gr = grindW X x4.age pn := ⟨_, rfl⟩
                have hwr : IntKind.i64.wrap (x4.worn j + gr) = x4.worn j + gr := IntWalk.i64_in _ (by rw [hgr]; omega)
                obtain ⟨rl, hrl⟩ : ∃ rl, rl = X.recs[j].plays.length := ⟨_, rfl⟩
                rw [← hrl] at r4 hkp
                have HGR := Lib.hid hgr
                have HPN := Lib.hid hpn
                have HSN := Lib.hid hsn
                have HX4 := Lib.hid hx4
                clear r1' r2' r3' r4' r5' hpc' hpe hpn hgc hok4 hsn hx4 hgr hgb hrl hwj
                go_upto_region 13 with (fail)
                obtain ⟨H5, hH5⟩ : ∃ H5, H5 = wr.heap.size := ⟨_, rfl⟩
                have hn5 := heap_new wr (.cells #[.int .i64 X.recs[j].worn, .int .i64 X.recs[j].limit, .int .i64 X.recs[j].price, .slice (some ⟨qb, qo, none⟩) rl cb] 59)
                obtain ⟨W5, hW5⟩ : ∃ W5, W5 = wr.alloc (.cells #[.int .i64 X.recs[j].worn, .int .i64 X.recs[j].limit, .int .i64 X.recs[j].price, .slice (some ⟨qb, qo, none⟩) rl cb] 59) := ⟨_, rfl⟩
                have hE5 : Ext wr W5 := by rw [hW5]; exact Ext.alloc (Ext.refl _) _
                rw [← hW5, ← hH5] at hn5
                rw [← hW5, ← hH5]
                have hsl := (Array.getElem?_eq_some_iff.1 HS2.out.1).1
                have hH5s : H5 ≠ s := by omega
                have hS : ∀ z, Fr (fun k => k = s) W5 z → z.cell? ⟨s, 0, none⟩ = some (.slice (some ⟨g, 0, none⟩) X.recs.length cap) → z.cell? ⟨b + 1, 0, none⟩ = some (.pointer (some ⟨s, 0, none⟩)) ∧ z.cell? ⟨s, 0, none⟩ = some (.slice (some ⟨g, 0, none⟩) X.recs.length cap) ∧ z.cell? ⟨g, j, none⟩ = some (.int .i64 (x4.worn j)) ∧
                    (z.cell? ⟨b, 0, none⟩ = some (.int .i64 X.weeks) ∧ z.cell? ⟨b, 1, none⟩ = some (.int .i64 X.price) ∧ z.cell? ⟨b, 2, none⟩ = some (.int .i64 X.age) ∧ z.cell? ⟨b, 3, none⟩ = some (.int .i64 X.step) ∧ z.cell? ⟨b, 4, none⟩ = some (.slice p X.rough.length c) ∧ z.cell? ⟨b, 5, none⟩ = some (.slice (some ⟨rb, ro, none⟩) X.recs.length d)) ∧
                    z.cell? ⟨H5, 3, none⟩ = some (.slice (some ⟨qb, qo, none⟩) rl cb) ∧ z.cell? ⟨qb, qo + k, none⟩ = some (.int .i64 pn) := fun z hz hz0 =>
                  have hq : ∀ {i o : Nat} {y : Value}, wr.cell? ⟨i, o, none⟩ = some y → i ≠ s → z.cell? ⟨i, o, none⟩ = some y := fun h hn => hz.cell (hE5.cell h) hn
                  ⟨hq ((cell_of_heap hI2.ptr 0).trans rfl) (by omega), hz0, hq hgw (by omega),
                    ⟨hq ((cell_of_heap hI2.box 0).trans rfl) (by omega), hq ((cell_of_heap hI2.box 1).trans rfl) (by omega), hq ((cell_of_heap hI2.box 2).trans rfl) (by omega), hq ((cell_of_heap hI2.box 3).trans rfl) (by omega), hq ((cell_of_heap hI2.box 4).trans rfl) (by omega), hq ((cell_of_heap hI2.box 5).trans rfl) (by omega)⟩,
                    hz.cell ((cell_of_heap hn5 3).trans rfl) hH5s, hq hpc (by omega)⟩
                have hs5 : W5.heap[s]? = some (.cells #[.slice (some ⟨g, 0, none⟩) X.recs.length cap, .int .i64 x4.age, .int .i64 x4.cost] 99 (0, 0)) := (Below.block hE5 s hsl).trans HS2.out.1
                have hwa5 : Ext wa W5 := hI2.ext.trans hE5
                have HPL : Hid (∀ z, Ext W5 z → Calls Try.prog 53 #[.pointer (some ⟨s, 1, none⟩), .agg #[.int .i64 X.weeks, .int .i64 X.price, .int .i64 X.age, .int .i64 X.step, .slice p X.rough.length c, .slice (some ⟨rb, ro, none⟩) X.recs.length d], .int .i64 pn] z (PlayPost X s 1 #[.slice (some ⟨g, 0, none⟩) X.recs.length cap, .int .i64 x4.age, .int .i64 x4.cost] 99 x4.age pn z)) := Lib.hid fun z hz =>
                  play03 _ X s 1 _ _ x4.age pn z ⟨_, _, _, _, rfl, HGA.out.ext (hwa5.trans hz), HRA.out.ext (hwa5.trans hz)⟩ HX.out ((Below.block hz s (by have := hE5.size; omega)).trans hs5) rfl hage.1 (by omega) (by omega) (fun w' hw' => by
                    have h1 : Ext wa w' := Fr.ext (hwa5.trans hz) hw' (fun i hi => by omega)
                    exact ⟨_, _, _, _, rfl, HGA.out.ext h1, HRA.out.ext h1⟩)
                have HSS := Lib.hid hS
                have HS5 := Lib.hid hs5
                have HE5 := Lib.hid hE5
                have hO5 := ownsRow_ext HS2.out.2 hE5
                have HO5 := Lib.hid hO5
                have hS0 := hS _ (Fr.refl (fun k => k = s) W5).drew ((cell_of_heap hs5 0).trans rfl)
                have HS0 := Lib.hid hS0
                clear hW5 hH5 hn5 hE5 r1 r2 r3 r4 hpc hgw hI2 hS hs5 hwa5 hO5 hS0
                refine wp_region_heldT (fun z => z.cell? ⟨b + 1, 0, none⟩ = some (.pointer (some ⟨s, 0, none⟩)) ∧ z.cell? ⟨s, 0, none⟩ = some (.slice (some ⟨g, 0, none⟩) X.recs.length cap) ∧ z.cell? ⟨g, j, none⟩ = some (.int .i64 (x4.worn j)) ∧
                    (z.cell? ⟨b, 0, none⟩ = some (.int .i64 X.weeks) ∧ z.cell? ⟨b, 1, none⟩ = some (.int .i64 X.price) ∧ z.cell? ⟨b, 2, none⟩ = some (.int .i64 X.age) ∧ z.cell? ⟨b, 3, none⟩ = some (.int .i64 X.step) ∧ z.cell? ⟨b, 4, none⟩ = some (.slice p X.rough.length c) ∧ z.cell? ⟨b, 5, none⟩ = some (.slice (some ⟨rb, ro, none⟩) X.recs.length d)) ∧
                    z.cell? ⟨H5, 3, none⟩ = some (.slice (some ⟨qb, qo, none⟩) rl cb) ∧ z.cell? ⟨qb, qo + k, none⟩ = some (.int .i64 pn)) 17
                  [(true, 0), (true, 1), (true, 2), (true, 3), (true, 4), (true, 5), (true, 6), (true, 7), (true, 8), (true, 9), (true, 10), (true, 11), (true, 12), (true, 13), (true, 14), (true, 15), (false, 16)] (by kernel_rfl) (by kernel_rfl) HS0.out ?_
                simp only [List.map_cons, List.map_nil, List.getElem?_cons_zero, List.getElem?_cons_succ]
                repeat (refine wpHL_take (v := ?_) (by rfl) ?_ (fun _ _ _ h => h) ?_; rotate_left 1; (intro z hz; (try dsimp only at hz); go_simp; (try with_reducible rfl)); simp only [Act.put, List.setIfInBounds_toArray, List.set_cons_zero, List.set_cons_succ])
                refine wpHL_step (fun K hK => ?_)
                go_simp
                refine (HPL.out _ (by repeat (first | exact Ext.refl _ | refine Ext.drew ?_))).mono ?_
                rintro e w6 ⟨rfl, hs6, hF6⟩
                rw [← HGR.out]
                simp only [List.setIfInBounds_toArray, List.set_cons_succ, List.set_cons_zero] at hs6
                have hF65 : Fr (fun k => k = s) W5 w6 := (Ext.fr (Ext.refl W5).drew _).trans hF6
                have HF65 := Lib.hid hF65
                have HS6 := Lib.hid hs6
                clear hF6
                refine hK.out _ _ (HSS.out w6 hF65 ((cell_of_heap hs6 0).trans rfl)) ?_
                clear hK K hs6 hF65
                try simp only [Act.put, List.setIfInBounds_toArray, List.set_cons_zero, List.set_cons_succ]
                refine wpHL_nil ?_
                simp only [List.drop_succ_cons, List.drop_zero]
                have ho6 : w6.ownsRow B 3 1 (.slice (some ⟨g, 0, none⟩) X.recs.length cap) X.recs.length (intVs (wornL X.recs.length x4.worn)) := ownsRow_fr HO5.out HF65.out (fun g' hg' e => by have e' : g' = s := e; have h1 : g = g' := Option.some.inj hg'; omega)
                have hg6 : w6.cell? ⟨g, j, none⟩ = some (.int .i64 (x4.worn j)) := (HSS.out w6 HF65.out ((cell_of_heap HS6.out 0).trans rfl)).2.2.1
                have hf6 : w6.frozen? ⟨g, j, none⟩ = false := ownsRow_frozen ho6
                have HO6 := Lib.hid ho6
                clear ho6
                go_wp2
                go_roundw
                case rel =>
                  refine ⟨j + 1, by omega, by go_num, ⟨?_, ?_⟩, ?_⟩
                  · rw [HSN.out]
                    refine heap_set_ne (by omega) ?_
                    rw [HS6.out]
                    show _ = some (Obj.cells #[_, .int .i64 (x4.age + playsW X k j), _] _ _)
                    rw [HPN.out]
                    rfl
                  · rw [HSN.out]
                    show _ = _ ∧ _
                    have h1 := ownsRow_setV (i := j) (u := .int .i64 (x4.worn j + gr)) HO6.out
                    rw [wornL_set] at h1
                    have h2 : (playW X k x4 j).worn = updI x4.worn j (x4.worn j + gr) := by
                      show updI x4.worn j (x4.worn j + grindW X x4.age (playsW X k j).toNat) = _
                      rw [HPN.out, Int.toNat_natCast, ← HGR.out]
                    rw [h2]
                    exact h1
                  · exact ((HFD.out.trans (HE5.out.fr _)).trans (HF65.out.mono fun k h => .inl h)).set (.inr rfl)
                case measure => simp [intOf]; omega
              · obtain rfl : j = X.recs.length := by omega
                have hrun : runTo X l (k + 1) = playsTo X k x3 X.recs.length := by
                  show weekW X (runTo X l k) k (wkAt l k) = _
                  unfold weekW
                  rw [HWA.out, ← HXK.out, HX3.out, HX1E.out]
                have hJ6 := HJ.out _ _ wr HJK.out ((HE1.out.fr _).trans (HFD.out.mono fun k h => .inl h)) hz
                have hz6 : w.heap.size + 2 ≤ wr.heap.size := by have := HE1.out.size; have := HFD.out.size; omega
                have hS6 : Sst X l B s u (List.range k ++ [k]) wr := by
                  refine ⟨by simp [List.range_succ], ?_⟩
                  rw [show (List.range k ++ [k]).length = k + 1 from by simp, hrun]
                  exact HS2.out
                obtain ⟨fn, tmps, ag, bd, hy, hR⟩ := HY.out (List.range k) k wr hlt hJ6 hS6 hz6
                have hR' := Lib.hid hR
                have hy' := Lib.hid hy
                have HRUN := Lib.hid hrun
                clear hy hR hrun hJ6 hS6 hI2
                go_upto_region 15 with (fail)
                have hy := hy'.out
                refine (wpIn_wide (n := 0)).1 ?_
                gi_wp2
                refine ⟨rfl, hR'.out.mono ?_⟩
                rintro e W7 ⟨(⟨rfl, hj7⟩ | ⟨rfl, hj7⟩), hF7⟩
                · have HJ7 := Lib.hid hj7
                  have HF7 := Lib.hid hF7
                  clear hj7 hF7 hy
                  gi_wp2
                  go_wp2
                  go_roundw
                  case rel =>
                    refine ⟨k + 1, by omega, by go_num, ?_, ?_, ?_, ?_⟩
                    · rw [HRUN.out]
                      refine HS2.out.fr HF7.out ?_ ?_
                      · rintro (h | h)
                        · exact (HEE.out _ h).2.1 (.inl rfl)
                        · omega
                      · rintro g hg (h | h)
                        · exact (HEE.out _ h).2.1 (.inr hg)
                        · have := HUG.out g hg; omega
                    · rw [List.range_succ]; exact HJ7.out
                    · exact (HF1.out.trans (HGG.out _ _ HFD.out)).trans (HF7.out.mono fun i h => h.elim (fun h => .inr (.inl h)) (fun h => .inr (.inr (by omega))))
                    · have := HF7.out.size; omega
                  case measure => simp [intOf]; omega
                · have HJ7 := Lib.hid hj7
                  have HF7 := Lib.hid hF7
                  clear hj7 hF7 hy
                  gi_wp2
                  go_wp2
                  refine bodyPost_ret (results_none rfl _ _ _) rfl ?_
                  refine ⟨⟨_, rfl⟩, .inr ⟨_, ?_, HJ7.out⟩, by have := HF7.out.size; omega⟩
                  rw [← List.range_succ]
                  exact List.prefix_iff_eq_take.2 (by rw [List.length_range, List.take_range, Nat.min_eq_left (by omega)])
    · obtain rfl : k = l.length := by omega
      go_wp2
      go_end0
      exact ⟨⟨_, rfl⟩, .inl ⟨HJK.out, HST.out⟩, hz⟩
end Go.Proofs.Ytppncdbhebgcaaa.We
namespace Go.Proofs.Ytppncdbhebgcaaa.We
open Go.RowKit
attribute [local go_sem] Oper.semAt_some

theorem StAt.below {n B s M : Nat} {u : Value} {x : St} {w w' : World} (h : StAt n B s u x w) (hF : Below M w w') (h1 : s < M) (h2 : ∀ g, u.ownBlock = some g → g < M) : StAt n B s u x w' := by
  refine ⟨(hF.block s h1).trans h.1, h.2.1, ?_⟩
  rcases h.2.2 with h0 | ⟨g, cap, cur, hv, hb, hg, hr⟩
  · exact Or.inl h0
  · exact Or.inr ⟨g, cap, cur, hv, hb, (hF.block g (h2 g (by rw [hv]; rfl))).trans hg, hr⟩

/-- what Run returns -/
def RunPost (X : Wr) (l : List Wk) (w : World) (e : Ending) (w' : World) : Prop :=
  Ext w w' ∧ ((ValidW X ∧ PlanOK X l ∧ ∃ v, e = .returned (.tuple #[v, .int .i64 (runTo X l l.length).age, .int .i64 (runTo X l l.length).cost, .int .i64 0]) ∧ IntsV w' v (wornL X.recs.length (runTo X l l.length).worn)) ∨
    (ValidW X ∧ ¬PlanOK X l ∧ e = .returned (.tuple #[.slice none 0 0, .int .i64 0, .int .i64 0, .int .i64 1])) ∨
    (¬ValidW X ∧ e = .returned (.tuple #[.slice none 0 0, .int .i64 0, .int .i64 0, .int .i64 30])))

theorem results_tmp4 {fn : Func} {t u v x : Tmp} (h : fn.results = #[.tmp t, .tmp u, .tmp v, .tmp x]) (tmps : Array Value) (P : Program) (w : World) :
    (results fn tmps).run P w = .ok (.tuple #[tmps.getD t undef, tmps.getD u undef, tmps.getD v undef, tmps.getD x undef]) w := by
  simp [results, h]
theorem noMarks_ret {P : Program} {fn : Func} {R : Ending → World → Prop} {tmps : Array Value} {W : World} {v : Value} (hr : (results fn tmps).run P W = .ok v W) (h : R (.returned v) W) :
    bodyPostM WF 0 P fn R .ret { tmps, defers := [] } W := ⟨v, hr, h⟩

set_option maxRecDepth 20000 in
set_option maxHeartbeats 3200000 in
theorem Run03 (v : Value) (X : Wr) (pp : Option Addr) (l : List Wk) (pc : Nat) (w : World) (hv : WrV w v X) (hM : ModestW X) (hl : l.length ≤ 100000) (hr : ∀ x ∈ l, x.recs.length ≤ 100000) (h : WksAt w pp l) :
    Calls Try.prog 20 #[v, .slice pp l.length pc] w (RunPost X l w) := by
  have hB := fun w' (hw : Ext w w') => begin03 v X pp l pc w' (WrV.mono _ _ _ _ hw hv) hM hl hr (h.ext hw)
  obtain ⟨p, c, q, d, rfl, h1, h2⟩ := id hv
  have HB := Lib.hid hB
  have HR2 := Lib.hid h2
  have HR1 := Lib.hid h1
  have HP := Lib.hid h
  clear hB hv h1 h2 h hM hr
  refine calls_of_marks Try.func20 rfl ?_
  simp only [Try.ntmps20, List.size_toArray, List.length_cons, List.length_nil, Nat.reduceAdd, Nat.reduceSub, Array.replicate_succ, Array.replicate_zero, List.push_toArray, List.append_toArray, List.nil_append, List.cons_append]
  go_upto_region 1 with (fail)
  have hn := heap_new w (.cells #[.int .i64 X.weeks, .int .i64 X.price, .int .i64 X.age, .int .i64 X.step, .slice p X.rough.length c, .slice q X.recs.length d] 57)
  obtain ⟨W, hW⟩ : ∃ W, W = w.alloc (.cells #[.int .i64 X.weeks, .int .i64 X.price, .int .i64 X.age, .int .i64 X.step, .slice p X.rough.length c, .slice q X.recs.length d] 57) := ⟨_, rfl⟩
  have hE : Ext w W := by rw [hW]; exact Ext.alloc (Ext.refl w) _
  rw [← hW] at hn ⊢
  have q0 := cell_of_heap hn 0
  have q1 := cell_of_heap hn 1
  have q2 := cell_of_heap hn 2
  have q3 := cell_of_heap hn 3
  have q4 := cell_of_heap hn 4
  have q5 := cell_of_heap hn 5
  simp at q0 q1 q2 q3 q4 q5
  have HE := Lib.hid hE
  clear hW hn
  have HBW := Lib.hid (HB.out W hE)
  clear HB hE
  by_cases hV : ValidW X
  case neg =>
    rw [beginV_bad hV] at HBW
    have HV := Lib.hid hV
    clear hV
    unfold zeroBx at HBW
    go_wp2_with (go_at_call 35; refine HBW.out.mono ?_; rintro e w' ⟨rfl, hE2⟩)
    refine noMarks_ret (v := .tuple #[.slice none 0 0, .int .i64 0, .int .i64 0, .int .i64 30]) (results_tmp4 (t := 4) (u := 5) (v := 6) (x := 7) rfl _ _ _) ⟨?_, .inr (.inr ⟨HV.out, rfl⟩)⟩
    have := HE.out.trans hE2
    repeat (with_reducible (first | refine Ext.drew ?_ | refine Ext.alloc ?_ _ | exact this))
  by_cases hP : PlanOK X l
  case neg =>
    rw [beginV_arg hV hP] at HBW
    have HV := Lib.hid hV
    have HPO := Lib.hid hP
    clear hV hP
    unfold zeroBx at HBW
    go_wp2_with (go_at_call 35; refine HBW.out.mono ?_; rintro e w' ⟨rfl, hE2⟩)
    refine noMarks_ret (v := .tuple #[.slice none 0 0, .int .i64 0, .int .i64 0, .int .i64 1]) (results_tmp4 (t := 4) (u := 5) (v := 6) (x := 7) rfl _ _ _) ⟨?_, .inr (.inl ⟨HV.out, HPO.out, rfl⟩)⟩
    have := HE.out.trans hE2
    repeat (with_reducible (first | refine Ext.drew ?_ | refine Ext.alloc ?_ _ | exact this))
  rw [beginV_ok hV hP] at HBW
  have HV := Lib.hid hV
  have HPO := Lib.hid hP
  clear hV hP
  go_upto_region 5 with (go_at_call 35; refine HBW.out.mono ?_; rintro e W2 ⟨rfl, hE2⟩)
  obtain ⟨W5, hW5⟩ : ∃ W5, W5 = (W2.alloc (bxO X p c q d)).alloc (.cells #[.slice none 0 0, .int .i64 0, .int .i64 0] 99) := ⟨_, rfl⟩
  have hbx := heap_new1 W2 (bxO X p c q d) (.cells #[.slice none 0 0, .int .i64 0, .int .i64 0] 99)
  have hst := heap_new2 W2 (bxO X p c q d) (.cells #[.slice none 0 0, .int .i64 0, .int .i64 0] 99)
  rw [← hW5] at hbx hst
  have hE5 : Ext w W5 := by rw [hW5]; exact Ext.alloc (Ext.alloc (HE.out.trans hE2) _) _
  have hs5 : W5.heap.size = W2.heap.size + 2 := by rw [hW5]; simp only [size_alloc]
  unfold bxO at hW5 hbx
  rw [← hW5]
  obtain ⟨s, hs⟩ : ∃ s, s = W2.heap.size + 1 := ⟨_, rfl⟩
  have b0 := cell_of_heap hbx 0
  have b1 := cell_of_heap hbx 1
  have b2 := cell_of_heap hbx 2
  have b3 := cell_of_heap hbx 3
  have b4 := cell_of_heap hbx 4
  have b5 := cell_of_heap hbx 5
  simp at b0 b1 b2 b3 b4 b5
  rw [← hs] at hst ⊢
  have hws : w.heap.size ≤ s := by have := HE.out.size; have := hE2.size; omega
  have hsW : s < W5.heap.size := by omega
  have HRUN := Lib.hid (run03 X p q pp c d pc l.length s W5 HV.out hst (fun w' hw' => HR2.out.ext (Fr.ext hE5 hw' (fun i hi => by omega))))
  have HE5 := Lib.hid hE5
  clear hW5 hbx hst hE5 hs5 hs hE2 q0 q1 q2 q3 q4 q5
  clear HBW
  go_wp2_with (go_at_call 36; refine HRUN.out.mono ?_; rintro e W6 ⟨rfl, hb0, hb1, hb2, ⟨u, hsu⟩, hF6⟩)
  have hEW6 : Ext w W6 := Fr.ext HE5.out hF6 (fun i hi => by omega)
  have hz56 := hF6.size
  have hz5 := HE5.out.size
  have hz6 : W5.heap.size + 3 ≤ W6.heap.size := by
    have := (Array.getElem?_eq_some_iff.1 hb2).1
    omega
  have hub : ∀ g, u.ownBlock = some g → W5.heap.size + 3 ≤ g ∧ g < W6.heap.size := fun g hg => hsu.2.lt g hg
  have HIT : Hid (ItAt X l p q pp c d pc W5.heap.size s w W6) := Lib.hid ⟨hb0, hb1, hb2, hEW6⟩
  have HSU := Lib.hid hsu
  have HE6 := Lib.hid hEW6
  have HUB := Lib.hid hub
  clear hb0 hb1 hb2 hsu hF6 hEW6 hub HRUN b0 b1 b2 b3 b4 b5
  refine (wpIn_wide (n := 0)).1 ?_
  refine range_lawD (fst := #[]) (gf := 52) (cap := #[.pointer (some ⟨W5.heap.size + 2, 0, none⟩), .pointer (some ⟨W5.heap.size + 1, 0, none⟩), .pointer (some ⟨W5.heap.size, 0, none⟩)]) rfl Try.call52
    (fun k : Nat => .int .i64 (k : Int)) (fun k => k < l.length) (List.range l.length) (fun _ => False) (Dst s u) (fun _ h => h.elim) ?hD (Sst X l (W5.heap.size + 3) s u) (StAt X.recs.length (W5.heap.size + 3) s u (runTo X l l.length)) (fun _ W => Ext w W) (fun _ _ _ => False)
    ?hI (fun _ _ _ _ h _ _ => h) ?hF HE6.out ?hiter ?hround ?hdone (fun _ _ _ _ h _ => h.elim)
  case hD =>
    rintro k (h | h)
    · omega
    · exact (HUB.out k h).2
  case hI =>
    intro pre A C h hF hz
    refine Fr.ext h hF ?_
    rintro i ((hi | hi) | hi)
    · omega
    · have := HUB.out i hi; omega
    · omega
  case hF =>
    intro A C h hB
    exact h.below hB (by omega) (fun g hg => (HUB.out g hg).2)
  case hiter =>
    intro lp J Jx hJ hJx hno hY A hA hz hj
    refine callsIn_wide.2 ?_
    refine (iter03 X HV.out l HPO.out p q pp c d pc W5.heap.size (W5.heap.size + 3) s u W6 (fun _ => False) lp w HIT.out HR2.out HR1.out HP.out HSU.out hws (by omega) hsW (Nat.le_refl _) (fun _ h => h.elim) J Jx hJ hJx hY A hA hz hj).mono ?_
    rintro e W' ⟨h1, h2, h3⟩
    exact ⟨h1, h2, h3⟩
  case hround =>
    intro lp pre x A hok hl hI hS hz
    gi_wp2
    refine ⟨Ext.refl _, fun W2 hW2 => ?_⟩
    gi_wp2
    exact ⟨Fr.refl _ _, hI.trans' (hW2.below (by rw [hl]; have := HE6.out.size; omega))⟩
  case hdone =>
    intro A hA hF hd
    have HA := Lib.hid hA
    have HF := Lib.hid hF
    have HD := Lib.hid hd
    have s0 := cell_of_heap hF.1 0
    have s1 := cell_of_heap hF.1 1
    have s2 := cell_of_heap hF.1 2
    simp at s0 s1 s2
    clear hA hF hd
    go_wp2
    go_quiet (fail)
    go_wp2
    refine marks_ret (v := .tuple #[u, .int .i64 (runTo X l l.length).age, .int .i64 (runTo X l l.length).cost, .int .i64 0]) HD.out (fun _ _ => results_tmp4 (t := 4) (u := 5) (v := 6) (x := 7) rfl _ _ _) (fun W' hW' => ?_)
    have hsz := HE6.out.size
    have hE' : Ext w W' := (HA.out.trans (Qt.ext (by repeat (first | exact Qt.refl _ | assumption | refine Qt.drewN ?_ _ | refine Qt.drew ?_)))).trans' (hW'.below hsz)
    refine ⟨hE', .inl ⟨HV.out, HPO.out, u, rfl, ?_⟩⟩
    have ho : W'.ownsRow (W5.heap.size + 3) 3 1 u X.recs.length (intVs (wornL X.recs.length (runTo X l l.length).worn)) :=
      ((HF.out.fr (Ext.fr (Qt.ext (w := A) (by repeat (first | exact Qt.refl _ | assumption | refine Qt.drewN ?_ _ | refine Qt.drew ?_))) (fun _ => False)) (fun h => h) (fun _ _ h => h)).below (M := W6.heap.size) (hW'.below (Nat.le_refl _)) (by omega) (fun g hg => (HUB.out g hg).2)).2
    have h1 := ownsRow_ints (l := wornL X.recs.length (runTo X l l.length).worn) (v := u) (B := W5.heap.size + 3) (w := W') (by rw [wornL_len]; exact ho)
    exact h1
end Go.Proofs.Ytppncdbhebgcaaa.We
namespace Go.Proofs.Ytppncdbhebgcaaa.We
open Go.RowKit
attribute [local go_sem] Oper.semAt_some

/-- the three results in cells from block B on -/
structure ResAt (B : Nat) (a : Bool) (b e : Int) (W : World) : Prop where
  r0 : W.heap[B]? = some (.cells #[.bool a] 4 (0, 0))
  r1 : W.heap[B + 1]? = some (.cells #[.int .i64 b] 3 (0, 0))
  r2 : W.heap[B + 2]? = some (.cells #[.int .i64 e] 29 (0, 0))
theorem ResAt.fr {B : Nat} {a : Bool} {b e : Int} {w w' : World} {E : Nat → Prop} (h : ResAt B a b e w) (hF : Fr E w w') (hn : ∀ k, k < 3 → ¬E (B + k)) : ResAt B a b e w' :=
  ⟨(hF.block _ (Array.getElem?_eq_some_iff.1 h.r0).1 (hn 0 (by decide))).trans h.r0, (hF.block _ (Array.getElem?_eq_some_iff.1 h.r1).1 (hn 1 (by decide))).trans h.r1, (hF.block _ (Array.getElem?_eq_some_iff.1 h.r2).1 (hn 2 (by decide))).trans h.r2⟩
theorem ResAt.below {B M : Nat} {a : Bool} {b e : Int} {w w' : World} (h : ResAt B a b e w) (hF : Below M w w') (hn : B + 2 < M) : ResAt B a b e w' :=
  ⟨(hF.block _ (by omega)).trans h.r0, (hF.block _ (by omega)).trans h.r1, (hF.block _ (by omega)).trans h.r2⟩

end Go.Proofs.Ytppncdbhebgcaaa.We
