
/- The walk of Week. The walk of Shows. The walk of plus. What Shows says, in plain words. The walk of Next, from what totals answers. What totals lays together, as the plain law speaks of it. The walk of totals. The walk of Rounds. -/
import Derived.Test.YtppncdbhebgcaaaDoorXF
namespace Go.Proofs.YtppncdbhebgcaaaDoor
open Go.RowKit

/-- a span and an error -/
def RetSp (lo hi n : Int) (w : World) (e : Ending) (w' : World) : Prop := e = .returned (.tuple #[.agg #[.int .i64 lo, .int .i64 hi], .int .i64 n]) ∧ Ext w w'
def okN (n : Int) (x : Int) : Int := if n = 0 then x else 0
theorem okN_0 {n : Int} (h : n = 0) (x : Int) : okN n x = x := if_pos h
theorem okN_ne {n : Int} (h : ¬n = 0) (x : Int) : okN n x = 0 := if_neg h
def isWkB (k n : Int) : Bool := decide (0 ≤ k) && decide (k < n)
theorem heap_pair {w : World} {b : Nat} {t : TypeId} {x0 x1 y0 y1 : Value} (h : w.heap[b]? = some (.cells #[x0, x1] t)) :
    ((w.setCell ⟨b, 0, none⟩ y0).setCell ⟨b, 1, none⟩ y1).heap[b]? = some (.cells #[y0, y1] t) := heap_set (heap_set h rfl) rfl
theorem sumsL_bits {M : Mt} (hM : ValidM M) {a b : Nat} (hab : a ≤ b) (hb : b ≤ M.weeks.length) : bitsI (betTo M a b 100) = (sumsL M a b).map fun t : Nat => (t : Int) := by
  rw [bet_eq hM hab hb, bitsI_eq]; rfl

noncomputable def weekLo (M : Mt) (f : Int) : Int := okN (askV M (isWkB f M.weeks.length)) ((sumsL M f.toNat (f.toNat + 1)).headD 0 : Nat)
noncomputable def weekHi (M : Mt) (f : Int) : Int := okN (askV M (isWkB f M.weeks.length)) ((sumsL M f.toNat (f.toNat + 1)).getLastD 0 : Nat)
theorem weekEnd04 (M : Mt) (f : Int) {w W : World} {s : Nat} {a : Act} (lo hi z : Int) {x y : Value} {t : TypeId} (hk : weekLo M f = lo ∧ weekHi M f = hi ∧ askV M (isWkB f M.weeks.length) = z) (hE : Ext w W)
    (hm : W.heap[s]? = some (.cells #[x, y] t)) (hs : w.heap.size ≤ s) (ha : a.tmps[4]? = some (.pointer (some ⟨s, 0, none⟩))) (hb : a.tmps[5]? = some (.int .i64 z)) (hd : a.defers = []) :
    bodyPost Tryd.prog Tryd.f12 (RetSp (weekLo M f) (weekHi M f) (askV M (isWkB f M.weeks.length)) w) .ret a ((W.setCell ⟨s, 0, none⟩ (.int .i64 lo)).setCell ⟨s, 1, none⟩ (.int .i64 hi)) := by
  have h := heap_pair (y0 := .int .i64 lo) (y1 := .int .i64 hi) hm
  have c0 := cell_of_heap h 0
  have c1 := cell_of_heap h 1
  simp at c0 c1
  refine bodyPost_ret (v := .tuple #[.agg #[.int .i64 lo, .int .i64 hi], .int .i64 z]) ?_ hd ⟨by rw [hk.1, hk.2.1, hk.2.2], Ext.setCell (Ext.setCell hE (p := ⟨s, 0, none⟩) hs _) (p := ⟨s, 1, none⟩) hs _⟩
  cases a with
  | mk tm df =>
    simp only at ha hb
    simp [results, Tryd.results12, go_sem, ha, hb, c0, c1]

theorem week_ends {S : Nat} {l : List Nat} {lo hi : Int} (hne : l ≠ []) (hs : bitsI S = l.map fun t : Nat => (t : Int)) (h0 : lo = (l.headD 0 : Nat)) (h1 : hi = (l.getLastD 0 : Nat)) :
    ∃ (m : Nat) (k : List Int), bitsI S = k ∧ k.length = m + 1 ∧ (intVs k)[0]? = some (.int .i64 lo) ∧ (intVs k)[m]? = some (.int .i64 hi) := by
  subst h0; subst h1
  cases l with
  | nil => exact absurd rfl hne
  | cons a l =>
    refine ⟨l.length, _, hs, by simp, by simp [intVs], ?_⟩
    simp only [intVs, List.getElem?_map]
    have e : (a :: l)[l.length]? = some ((a :: l).getLastD 0) := by
      rw [List.getLastD_eq_getLast?, List.getLast?_eq_getElem?]
      simp
    rw [e]
    rfl

set_option maxRecDepth 20000 in
set_option maxHeartbeats 16000000 in
theorem Week04 (M : Mt) (f : Int) (v : Value) (w : World) (hv : MtV w v M) (h1 : M.weeks.length ≤ 1000) (h2 : M.reads.length ≤ 1000) (hT : TabW w) :
    Calls Tryd.prog 12 #[v, .int .i64 f] w (RetSp (weekLo M f) (weekHi M f) (askV M (isWkB f M.weeks.length)) w) := by
  have HV := Lib.hid hv
  have HT := Lib.hid hT
  obtain ⟨p, c, qq, d, rfl, hp, hq⟩ := hv
  have HP := Lib.hid hp
  have HQ := Lib.hid hq
  clear hp hq hT
  go_enter Tryd.func12, Tryd.ntmps12
  go_upto_region 1 with (fail)
  obtain ⟨s0, hs0'⟩ : ∃ s0, s0 = w.heap.size := ⟨_, rfl⟩
  generalize hW : World.alloc _ _ = W
  have m0 : W.heap[s0]? = some (.cells #[.slice p M.weeks.length c, .slice qq M.reads.length d, .int .i64 M.wrong] 31) := by rw [hs0']; exact heap_at0 (by rw [← hW]; exact (by repeat (first | exact Ext.refl _ | assumption | refine Ext.drewN ?_ _ | refine Ext.drew ?_ | refine Ext.alloc ?_ _)))
  have m1 : W.heap[s0 + 1]? = some (.cells #[.int .i64 0, .int .i64 0] 43) := by rw [hs0', ← hW]; exact heap_new2 _ _ _
  have hE : Ext w W := by rw [← hW]; exact (by repeat (first | exact Ext.refl _ | assumption | refine Ext.drewN ?_ _ | refine Ext.drew ?_ | refine Ext.alloc ?_ _))
  rw [← hs0']
  have m00 := ExtW.cell (v := .slice p M.weeks.length c) (cell_of_heap m0 0)
  have m01 := ExtW.cell (v := .slice qq M.reads.length d) (cell_of_heap m0 1)
  have m02 := ExtW.cell (v := .int .i64 M.wrong) (cell_of_heap m0 2)
  have HE := Lib.hid hE
  have HM1 := Lib.hid m1
  have m10 := ExtW.cell (v := .int .i64 0) (cell_of_heap m1 0)
  have m11 := ExtW.cell (v := .int .i64 0) (cell_of_heap m1 1)
  have f10 : ∀ x : ExtW W, x.w.frozen? ⟨s0 + 1, 0, none⟩ = false := fun x => cell_frozen ((x.h.block _ (Array.getElem?_eq_some_iff.1 m1).1).trans m1) 0
  have f11 : ∀ x : ExtW W, x.w.frozen? ⟨s0 + 1, 1, none⟩ = false := fun x => cell_frozen ((x.h.block _ (Array.getElem?_eq_some_iff.1 m1).1).trans m1) 1
  have HS0 := Lib.hid (show w.heap.size ≤ s0 + 1 from by omega)
  have HAK := Lib.hid (fun is (x : ExtW W) => ExtW.call (ask04 M is _ x.w (HV.out.ext (hE.trans x.h)) h1 h2))
  have HBT := Lib.hid (fun hM ha hb (x : ExtW W) => ExtW.call (between04 M hM f.toNat (f.toNat + 1) p qq c d x.w (HP.out.ext (hE.trans x.h)) (HQ.out.ext (hE.trans x.h)) ha hb))
  obtain ⟨x0, hx0⟩ := ExtW.of (Ext.refl W)
  clear hW m0 m1 hE hs0'
  conv => arg 5; rw [hx0]
  clear hx0
  by_cases hA : 0 ≤ f
  case neg =>
    have HIS := Lib.hid (show isWkB f M.weeks.length = false from by unfold isWkB; simp [hA])
    have HAF := Lib.hid (HAK.out false)
    obtain ⟨z, hz⟩ : ∃ z, askV M false = z := ⟨_, rfl⟩
    have hz0 : ¬z = 0 := by rw [← hz]; exact askV_f M
    rw [hz] at HAF
    have HOK := Lib.hid (show weekLo M f = 0 ∧ weekHi M f = 0 ∧ askV M (isWkB f M.weeks.length) = z from by
      have e : askV M (isWkB f M.weeks.length) = z := by rw [HIS.out, hz]
      refine ⟨?_, ?_, e⟩
      · unfold weekLo; rw [e, okN_ne hz0]
      · unfold weekHi; rw [e, okN_ne hz0])
    have g1 : (z == 0) = false := by simpa using hz0
    have g2 : decide (z = 0) = false := by simpa using hz0
    clear hz hz0 HBT
    go_wp2_with (go_at_call 18; refine (HAF.out _).mono ?_; rintro e w1 ⟨rfl, x1, rfl⟩)
    refine weekEnd04 M f _ _ _ HOK.out (HE.out.trans x1.h) ((x1.h.block _ (Array.getElem?_eq_some_iff.1 HM1.out).1).trans HM1.out) HS0.out ?_ ?_ ?_ <;> rfl
  by_cases hB : f < (M.weeks.length : Int)
  case neg =>
    have HIS := Lib.hid (show isWkB f M.weeks.length = false from by unfold isWkB; simp [hB])
    have HAF := Lib.hid (HAK.out false)
    obtain ⟨z, hz⟩ : ∃ z, askV M false = z := ⟨_, rfl⟩
    have hz0 : ¬z = 0 := by rw [← hz]; exact askV_f M
    rw [hz] at HAF
    have HOK := Lib.hid (show weekLo M f = 0 ∧ weekHi M f = 0 ∧ askV M (isWkB f M.weeks.length) = z from by
      have e : askV M (isWkB f M.weeks.length) = z := by rw [HIS.out, hz]
      refine ⟨?_, ?_, e⟩
      · unfold weekLo; rw [e, okN_ne hz0]
      · unfold weekHi; rw [e, okN_ne hz0])
    have g1 : (z == 0) = false := by simpa using hz0
    have g2 : decide (z = 0) = false := by simpa using hz0
    clear hz hz0 HBT
    go_wp2_with (go_at_call 18; refine (HAF.out _).mono ?_; rintro e w1 ⟨rfl, x1, rfl⟩)
    refine weekEnd04 M f _ _ _ HOK.out (HE.out.trans x1.h) ((x1.h.block _ (Array.getElem?_eq_some_iff.1 HM1.out).1).trans HM1.out) HS0.out ?_ ?_ ?_ <;> rfl
  have HIS := Lib.hid (show isWkB f M.weeks.length = true from by unfold isWkB; simp [hA, hB])
  have HAT := Lib.hid (HAK.out true)
  obtain ⟨z, hz⟩ : ∃ z, askV M true = z := ⟨_, rfl⟩
  rw [hz] at HAT
  by_cases hz0 : z = 0
  case neg =>
    have HOK := Lib.hid (show weekLo M f = 0 ∧ weekHi M f = 0 ∧ askV M (isWkB f M.weeks.length) = z from by
      have e : askV M (isWkB f M.weeks.length) = z := by rw [HIS.out, hz]
      refine ⟨?_, ?_, e⟩
      · unfold weekLo; rw [e, okN_ne hz0]
      · unfold weekHi; rw [e, okN_ne hz0])
    have g1 : (z == 0) = false := by simpa using hz0
    have g2 : decide (z = 0) = false := by simpa using hz0
    clear hz hz0 HBT
    go_wp2_with (go_at_call 18; refine (HAT.out _).mono ?_; rintro e w1 ⟨rfl, x1, rfl⟩)
    refine weekEnd04 M f _ _ _ HOK.out (HE.out.trans x1.h) ((x1.h.block _ (Array.getElem?_eq_some_iff.1 HM1.out).1).trans HM1.out) HS0.out ?_ ?_ ?_ <;> rfl
  subst hz0
  obtain ⟨hM, -⟩ := askV_0 hz
  have hlt : f.toNat + 1 ≤ M.weeks.length := by omega
  obtain ⟨hne, -⟩ := week_span_of hM (show f.toNat ≤ f.toNat + 1 by omega) hlt ((askV_iff hM).1 hz)
  have hsb := sumsL_bits hM (show f.toNat ≤ f.toNat + 1 by omega) hlt
  obtain ⟨lo, hlo⟩ : ∃ lo : Int, lo = ((sumsL M f.toNat (f.toNat + 1)).headD 0 : Nat) := ⟨_, rfl⟩
  obtain ⟨hi, hhi⟩ : ∃ hi : Int, hi = ((sumsL M f.toNat (f.toNat + 1)).getLastD 0 : Nat) := ⟨_, rfl⟩
  have HOK := Lib.hid (show weekLo M f = lo ∧ weekHi M f = hi ∧ askV M (isWkB f M.weeks.length) = 0 from by
      have e : askV M (isWkB f M.weeks.length) = 0 := by rw [HIS.out, hz]
      refine ⟨?_, ?_, e⟩
      · unfold weekLo; rw [e, okN_0 rfl, hlo]
      · unfold weekHi; rw [e, okN_0 rfl, hhi])
  have hbt := HBT.out hM (by omega) (by omega)
  rw [Int.natCast_add, Int.toNat_of_nonneg hA] at hbt
  have HB := Lib.hid hbt
  have hwf : IntKind.i64.wrap (f + 1) = f + 1 := IntWalk.i64_in _ (by omega)
  have HAL := Lib.hid (fun x : ExtW W => all04 (betTo M f.toNat (f.toNat + 1) 100) x.w (HT.out.ext (HE.out.trans x.h)))
  obtain ⟨m, l, hl, hlm, hl0, hl1⟩ : ∃ (m : Nat) (l : List Int), bitsI (betTo M f.toNat (f.toNat + 1) 100) = l ∧ l.length = m + 1 ∧ (intVs l)[0]? = some (.int .i64 lo) ∧ (intVs l)[m]? = some (.int .i64 hi) := week_ends hne hsb hlo hhi
  have hmb : m < 1536 := by have h : (bitsI (betTo M f.toNat (f.toNat + 1) 100)).length ≤ 1536 := bitsTo_len _ 1536; rw [hl, hlm] at h; omega
  rw [hl, hlm] at HAL
  clear hne hsb hlo hhi hz hM hbt HBT hl
  have HL0 := Lib.hid hl0
  have HL1 := Lib.hid hl1
  have HLM := Lib.hid hlm
  clear hl0 hl1 hlm
  go_upto_region 5 with (first
    | (go_at_call 18; refine (HAT.out _).mono ?_; rintro e w1 ⟨rfl, x1, rfl⟩)
    | (go_at_call 19; refine (HB.out _).mono ?_; rintro e w1 ⟨rfl, x2, rfl⟩)
    | (go_at_call 20; refine (HAL.out _).mono ?_; rintro e w3 ⟨u, rfl, hO, hE3⟩))
  obtain ⟨g, cap, rfl, hc0⟩ := ownsRow_at hO 0 (by omega)
  obtain ⟨g', cap', he, hc1⟩ := ownsRow_at hO m (by omega)
  cases he
  rw [HL0.out] at hc0
  rw [HL1.out] at hc1
  have HX := Lib.hid ((HE.out.trans x2.h).trans hE3)
  have hX := (x2.h.trans hE3)
  have HM3 := Lib.hid ((hX.block _ (Array.getElem?_eq_some_iff.1 HM1.out).1).trans HM1.out)
  have a0 : w3.cell? ⟨s0 + 1, 0, none⟩ = some (.int .i64 0) := cell_of_heap HM3.out 0
  have a1 : w3.cell? ⟨s0 + 1, 1, none⟩ = some (.int .i64 0) := cell_of_heap HM3.out 1
  have b0 : w3.frozen? ⟨s0 + 1, 0, none⟩ = false := cell_frozen HM3.out 0
  have b1 : w3.frozen? ⟨s0 + 1, 1, none⟩ = false := cell_frozen HM3.out 1
  have hm1 : IntKind.i64.wrap (m : Int) = m := IntWalk.i64_in _ (by omega)
  have hm2 : IntKind.i64.wrap ((m : Int) + 1) = (m : Int) + 1 := IntWalk.i64_in _ (by omega)
  have hm3 : (m : Int) < (m : Int) + 1 := by omega
  have hm4 : (0 : Int) ≤ (m : Int) := by omega
  clear hO hE3 hX
  go_still_tail 9, (by kernel_rfl)
  change wpList _ _ _ _ _ w3.drew
  have a0 : w3.drew.cell? ⟨s0 + 1, 0, none⟩ = _ := a0
  have a1 : w3.drew.cell? ⟨s0 + 1, 1, none⟩ = _ := a1
  have b0 : w3.drew.frozen? ⟨s0 + 1, 0, none⟩ = false := b0
  have b1 : w3.drew.frozen? ⟨s0 + 1, 1, none⟩ = false := b1
  have hc0 : w3.drew.cell? ⟨g, 0, none⟩ = _ := hc0
  have hc1 : w3.drew.cell? ⟨g, m, none⟩ = _ := hc1
  go_wp2
  refine weekEnd04 M f _ _ _ HOK.out (Ext.drew HX.out) HM3.out HS0.out ?_ ?_ ?_ <;> rfl
end Go.Proofs.YtppncdbhebgcaaaDoor
namespace Go.Proofs.YtppncdbhebgcaaaDoor
open Go.RowKit

def isAf (k n : Int) : Bool := decide (0 ≤ k) && decide (k ≤ n)
def showF (M : Mt) (a : Nat) (s : Nat) : Bool := decide (wrongsF M a (s : Int) ≤ M.wrong)

set_option maxRecDepth 20000 in
set_option maxHeartbeats 16000000 in
theorem Shows04 (M : Mt) (f : Int) (v : Value) (w : World) (hv : MtV w v M) (h1 : M.weeks.length ≤ 1000) (h2 : M.reads.length ≤ 1000) :
    Calls Tryd.prog 9 #[v, .int .i64 f] w (RetL (okL (askV M (isAf f M.weeks.length)) (pickTo (showF M f.toNat) 100)) (askV M (isAf f M.weeks.length)) w) := by
  have HV := Lib.hid hv
  obtain ⟨i0, hi, hz0, hz1, hz2⟩ := info_parts info_a
  obtain ⟨p, c, qq, d, rfl, hp, hq⟩ := hv
  have HP := Lib.hid hp
  have HQ := Lib.hid hq
  clear hp hq
  go_enter Tryd.func9, Tryd.ntmps9
  go_upto_region 1 with (fail)
  obtain ⟨s0, hs0'⟩ : ∃ s0, s0 = w.heap.size := ⟨_, rfl⟩
  generalize hW : World.alloc _ _ = W
  have m0 : W.heap[s0]? = some (.cells #[.slice p M.weeks.length c, .slice qq M.reads.length d, .int .i64 M.wrong] 31) := by rw [hs0', ← hW]; exact heap_new _ _
  have hE : Ext w W := by rw [← hW]; exact (by repeat (first | exact Ext.refl _ | assumption | refine Ext.drewN ?_ _ | refine Ext.drew ?_ | refine Ext.alloc ?_ _))
  rw [← hs0']
  have m00 := ExtW.cell (v := .slice p M.weeks.length c) (cell_of_heap m0 0)
  have m01 := ExtW.cell (v := .slice qq M.reads.length d) (cell_of_heap m0 1)
  have m02 := ExtW.cell (v := .int .i64 M.wrong) (cell_of_heap m0 2)
  have HC2 := Lib.hid m02
  have HC1 := Lib.hid m01
  have HC0 := Lib.hid m00
  have HE := Lib.hid hE
  have HAK := Lib.hid (fun is (x : ExtW W) => ExtW.call (ask04 M is _ x.w (HV.out.ext (hE.trans x.h)) h1 h2))
  have HMK := Lib.hid (fun x : ExtW W => ExtW.call (masks04 x.w))
  obtain ⟨x0, hx0⟩ := ExtW.of (Ext.refl W)
  clear hW m0 hE hs0'
  conv => arg 5; rw [hx0]
  clear hx0
  by_cases hA : 0 ≤ f
  case neg =>
    have HIS := Lib.hid (show isAf f M.weeks.length = false from by unfold isAf; simp [hA])
    have HAF := Lib.hid (HAK.out false)
    obtain ⟨z, hz⟩ : ∃ z, askV M false = z := ⟨_, rfl⟩
    have hz0 : ¬z = 0 := by rw [← hz]; exact askV_f M
    rw [hz] at HAF
    have HOK := Lib.hid (show okL (askV M (isAf f M.weeks.length)) (pickTo (showF M f.toNat) 100) = [] ∧ askV M (isAf f M.weeks.length) = z from by rw [HIS.out, hz]; exact ⟨okL_ne hz0 _, rfl⟩)
    have g1 : (z == 0) = false := by simpa using hz0
    have g2 : decide (z = 0) = false := by simpa using hz0
    clear hz hz0
    go_wp2_with (go_at_call 18; refine (HAF.out _).mono ?_; rintro e w1 ⟨rfl, x1, rfl⟩)
    go_ret2
    exact ⟨.slice none 0 0, by rw [HOK.out.2]; rfl, by rw [HOK.out.1]; exact World.ownsRow_nil _ _ _ _, HE.out.trans x1.h⟩
  by_cases hB : f ≤ (M.weeks.length : Int)
  case neg =>
    have HIS := Lib.hid (show isAf f M.weeks.length = false from by unfold isAf; simp [hB])
    have HAF := Lib.hid (HAK.out false)
    obtain ⟨z, hz⟩ : ∃ z, askV M false = z := ⟨_, rfl⟩
    have hz0 : ¬z = 0 := by rw [← hz]; exact askV_f M
    rw [hz] at HAF
    have HOK := Lib.hid (show okL (askV M (isAf f M.weeks.length)) (pickTo (showF M f.toNat) 100) = [] ∧ askV M (isAf f M.weeks.length) = z from by rw [HIS.out, hz]; exact ⟨okL_ne hz0 _, rfl⟩)
    have g1 : (z == 0) = false := by simpa using hz0
    have g2 : decide (z = 0) = false := by simpa using hz0
    clear hz hz0
    go_wp2_with (go_at_call 18; refine (HAF.out _).mono ?_; rintro e w1 ⟨rfl, x1, rfl⟩)
    go_ret2
    exact ⟨.slice none 0 0, by rw [HOK.out.2]; rfl, by rw [HOK.out.1]; exact World.ownsRow_nil _ _ _ _, HE.out.trans x1.h⟩
  have HIS := Lib.hid (show isAf f M.weeks.length = true from by unfold isAf; simp [hA, hB])
  have HAT := Lib.hid (HAK.out true)
  obtain ⟨z, hz⟩ : ∃ z, askV M true = z := ⟨_, rfl⟩
  rw [hz] at HAT
  by_cases hz0 : z = 0
  case neg =>
    have HOK := Lib.hid (show okL (askV M (isAf f M.weeks.length)) (pickTo (showF M f.toNat) 100) = [] ∧ askV M (isAf f M.weeks.length) = z from by rw [HIS.out, hz]; exact ⟨okL_ne hz0 _, rfl⟩)
    have g1 : (z == 0) = false := by simpa using hz0
    have g2 : decide (z = 0) = false := by simpa using hz0
    clear hz hz0
    go_wp2_with (go_at_call 18; refine (HAT.out _).mono ?_; rintro e w1 ⟨rfl, x1, rfl⟩)
    go_ret2
    exact ⟨.slice none 0 0, by rw [HOK.out.2]; rfl, by rw [HOK.out.1]; exact World.ownsRow_nil _ _ _ _, HE.out.trans x1.h⟩
  subst hz0
  obtain ⟨hM, -⟩ := askV_0 hz
  have HVM := Lib.hid hM
  have hn7 := hM.nr
  have HOK := Lib.hid (show okL (askV M (isAf f M.weeks.length)) (pickTo (showF M f.toNat) 100) = pickTo (showF M f.toNat) 100 ∧ askV M (isAf f M.weeks.length) = 0 from by rw [HIS.out, hz]; exact ⟨okL_0 rfl _, rfl⟩)
  obtain ⟨a, rfl⟩ : ∃ a : Nat, f = a := ⟨f.toNat, by omega⟩
  have hal : a ≤ M.weeks.length := by omega
  rw [Int.toNat_natCast] at HOK
  clear hz hM
  go_upto_region 4 with (go_at_call 18; refine (HAT.out _).mono ?_; rintro e w1 ⟨rfl, x1, rfl⟩)
  go_upto_region 5 with (first
    | (go_at_call 21; refine (HMK.out _).mono ?_; rintro e w2 ⟨rfl, x2, rfl⟩)
    | (refine guardL (.store 69 (.tmp 7) (.tmp 24)) rfl ?_; rw [zero2400]; refine wpList_storeB 69 _ _ iMasks rfl rfl rfl rfl (Blk.new' rfl _ _ _ _) (Nat.le_refl _) ?_))
  have bm := ((Blk.new' (w := x2.w) rfl 69 2400 .u64 (fun _ => 0)).sets 0 mskF 2400).congr (g := mskF) (fun j hj => by rw [if_pos (by omega), Nat.sub_zero])
  have hE2 : Ext W ((x2.w.alloc (.cells (rowV 2400 .u64 (fun _ => 0)) 69)).setCells x2.w.heap.size 0 (rowV 2400 .u64 mskF).toList) := (x2.h.alloc _).setCells x2.h.size _ _
  obtain ⟨mb, hmb⟩ : ∃ mb, mb = x2.w.heap.size := ⟨_, rfl⟩
  rw [← hmb] at bm hE2 ⊢
  generalize World.setCells _ _ _ _ = W2 at bm hE2 ⊢
  have HBM := Lib.hid bm
  have HE2 := Lib.hid hE2
  have HCE := Lib.hid (fun y (h : Ext W2 y) => (⟨HC0.out ⟨y, hE2.trans h⟩, HC1.out ⟨y, hE2.trans h⟩, HC2.out ⟨y, hE2.trans h⟩, HE.out.trans (hE2.trans h)⟩ :
    y.cell? ⟨s0, 0, none⟩ = some (.slice p M.weeks.length c) ∧ y.cell? ⟨s0, 1, none⟩ = some (.slice qq M.reads.length d) ∧ y.cell? ⟨s0, 2, none⟩ = some (.int .i64 M.wrong) ∧ Ext w y))
  clear bm hE2 hmb m00 m01 m02
  go_upto_region 6 with (fail)
  go_wp2
  go_loopw [8, 25] (fun u i wr => ∃ k : Nat, k ≤ 100 ∧ i = .int .i64 k ∧ Ext W2 wr ∧ wr.ownsRow W2.heap.size 3 1 u (pickTo (showF M a) k).length (intVs (pickTo (showF M a) k))) (fun _ i _ => 100 - (intOf i).toNat)
  case atStart => exact ⟨0, by omega, rfl, Ext.refl _, World.ownsRow_nil _ _ _ _⟩
  case round =>
    obtain ⟨k, hk, rfl, hE, hO⟩ := hrel
    have HER := Lib.hid hE
    have HO := Lib.hid hO
    clear hE hO
    by_cases hlt : k < 100
    · have hlt' : (k : Int) < 100 := by omega
      have HWR := Lib.hid (fun y (h : Ext W2 y) => wrongs04 M HVM.out a mb 69 (k : Int) p qq c d y (HP.out.ext (HCE.out y h).2.2.2) (HQ.out.ext (HCE.out y h).2.2.2) (HBM.out.ext h) hal (by omega) (by omega))
      have hsn := pickTo_succ (showF M a) k
      have hlen := pickTo_len (showF M a) k
      obtain ⟨x, hx⟩ : ∃ x, x = wrongsF M a (k : Int) := ⟨_, rfl⟩
      obtain ⟨bb, hbb⟩ : ∃ bb, bb = showF M a k := ⟨_, rfl⟩
      have hbx : decide (x ≤ M.wrong) = bb := by rw [hbb, hx]; rfl
      rw [← hx] at HWR
      rw [← hbb] at hsn
      have HSN := Lib.hid hsn
      have HBX := Lib.hid hbx
      clear hx hbb hsn hbx
      go_upto_region 9 with (fail)
      refine wp_region_facts 7 [[], [], [], [0, 1, 2], [], [4], [3, 5]] [6] Ext (FL [Is (.agg #[.slice p M.weeks.length c, .slice qq M.reads.length d, .int .i64 M.wrong]), Is (.int .i64 (a : Int)), Is (.int .i64 (k : Int)), Is (.int .i64 x), Is (.pointer (some ⟨s0, 2, none⟩)), Is (.int .i64 M.wrong), Is (.bool (decide (x ≤ M.wrong)))]) (by kernel_rfl) (by kernel_rfl) Ext.refl (fun _ _ _ => Ext.trans) (fun _ _ => Ext.size) (FL.mono ⟨Is.mono, Is.mono, Is.mono, Is.mono, Is.mono, Is.mono, Is.mono, trivial⟩) ⟨?_, ?_, ?_, ?_, ?_, ?_, ?_, trivial⟩ ?_
      · refine opF_step ?_
        intro ys l0 h0 w' hr hf K hK
        clear hf
        obtain ⟨k0, k1, k2, k3⟩ := HCE.out w' (HER.out.drew.trans hr)
        simp only [fill, Act.put, dstO, List.take_succ_cons, List.take_zero, List.setIfInBounds_toArray, List.set_cons_zero, List.set_cons_succ, List.getElem?_cons_zero, Nat.zero_add, Nat.reduceAdd] at hK ⊢
        refine OpB.mk' ?_
        go_simp
        exact hK.out _ _ rfl (Ext.refl _)
      · refine opF_step ?_
        intro ys l0 h0 w' hr hf K hK
        clear hf
        simp only [fill, Act.put, dstO, List.take_succ_cons, List.take_zero, List.setIfInBounds_toArray, List.set_cons_zero, List.set_cons_succ, List.getElem?_cons_zero, List.getElem?_cons_succ, Nat.zero_add, Nat.reduceAdd] at hK ⊢
        refine OpB.mk' ?_
        go_simp
        exact hK.out _ _ rfl (Ext.refl _)
      · refine opF_step ?_
        intro ys l0 h0 w' hr hf K hK
        clear hf
        simp only [fill, Act.put, dstO, List.take_succ_cons, List.take_zero, List.setIfInBounds_toArray, List.set_cons_zero, List.set_cons_succ, List.getElem?_cons_zero, List.getElem?_cons_succ, Nat.zero_add, Nat.reduceAdd] at hK ⊢
        refine OpB.mk' ?_
        go_simp
        exact hK.out _ _ rfl (Ext.refl _)
      · refine opF_step ?_
        intro ys l0 h0 w' hr hf K hK
        obtain ⟨f0, f1, f2, -⟩ := hf
        have e0 : ys 0 = _ := f0
        have e1 : ys 1 = _ := f1
        have e2 : ys 2 = _ := f2
        obtain ⟨k0, k1, k2, k3⟩ := HCE.out w' (HER.out.drew.trans hr)
        simp only [fill, Act.put, dstO, List.take_succ_cons, List.take_zero, List.setIfInBounds_toArray, List.set_cons_zero, List.set_cons_succ, List.getElem?_cons_zero, List.getElem?_cons_succ, Nat.zero_add, Nat.reduceAdd] at hK ⊢
        simp only [e0, e1, e2] at hK ⊢
        clear e0 e1 e2 f0 f1 f2
        refine OpB.mk' ?_
        go_simp
        refine (HWR.out w' (HER.out.drew.trans hr)).mono ?_
        rintro e w2 ⟨rfl, hE2⟩
        exact hK.out _ _ rfl hE2
      · refine opF_step ?_
        intro ys l0 h0 w' hr hf K hK
        clear hf
        simp only [fill, Act.put, dstO, List.take_succ_cons, List.take_zero, List.setIfInBounds_toArray, List.set_cons_zero, List.set_cons_succ, List.getElem?_cons_zero, List.getElem?_cons_succ, Nat.zero_add, Nat.reduceAdd] at hK ⊢
        refine OpB.mk' ?_
        go_simp
        exact hK.out _ _ rfl (Ext.refl _)
      · refine opF_step ?_
        intro ys l0 h0 w' hr hf K hK
        obtain ⟨f0, -⟩ := hf
        have e0 : ys 4 = _ := f0
        obtain ⟨k0, k1, k2, k3⟩ := HCE.out w' (HER.out.drew.trans hr)
        simp only [fill, Act.put, dstO, List.take_succ_cons, List.take_zero, List.setIfInBounds_toArray, List.set_cons_zero, List.set_cons_succ, List.getElem?_cons_zero, List.getElem?_cons_succ, Nat.zero_add, Nat.reduceAdd] at hK ⊢
        simp only [e0] at hK ⊢
        clear e0 f0
        refine OpB.mk' ?_
        go_simp
        exact hK.out _ _ rfl (Ext.refl _)
      · refine opF_step ?_
        intro ys l0 h0 w' hr hf K hK
        obtain ⟨f0, f1, -⟩ := hf
        have e0 : ys 3 = _ := f0
        have e1 : ys 5 = _ := f1
        simp only [fill, Act.put, dstO, List.take_succ_cons, List.take_zero, List.setIfInBounds_toArray, List.set_cons_zero, List.set_cons_succ, List.getElem?_cons_zero, List.getElem?_cons_succ, Nat.zero_add, Nat.reduceAdd] at hK ⊢
        simp only [e0, e1] at hK ⊢
        clear e0 e1 f0 f1
        refine OpB.mk' ?_
        go_simp
        exact hK.out _ _ rfl (Ext.refl _)
      intro ys l0 h0 w2 hr hf hsp
      obtain ⟨f6, -⟩ := hf
      have e6 : ys 6 = _ := f6
      simp only [fill, Act.put, List.take_succ_cons, List.take_zero, List.setIfInBounds_toArray, List.set_cons_zero, List.set_cons_succ, Nat.zero_add, Nat.reduceAdd, List.drop_succ_cons, List.drop_zero]
      rw [e6]
      clear e6 f6 hsp
      rw [HBX.out]
      have HE2' := Lib.hid (HER.out.drew.trans hr)
      have HO2 := Lib.hid (ownsRow_ext HO.out ((Ext.refl wr).drew.trans hr))
      clear hr HBX
      cases bb
      · have HSN2 := Lib.hid (show pickTo (showF M a) (k + 1) = pickTo (showF M a) k from by rw [HSN.out]; simp)
        clear HSN
        go_wp2
        go_roundw
        case rel => exact ⟨k + 1, by omega, by go_num, HE2'.out, by rw [HSN2.out]; exact HO2.out⟩
        case measure => simp [intOf]; omega
      · have HSN2 := Lib.hid (show pickTo (showF M a) (k + 1) = pickTo (showF M a) k ++ [(k : Int)] from by rw [HSN.out]; simp)
        clear HSN
        have hsz3 := HE2'.out.size
        go_wp2_with (at_builtin; refine wpList_append_lies _ rfl (.tmp 35) (.tmp 37) 32 rfl W2.heap.size 3 i0 (.int .i64 0) 1 8 Tryd.underlying32 hi hz0 hz1 hz2 rfl (by decide) _ (pickTo (showF M a) k).length _ rfl (HO2.out.alloc _) ⟨w2.heap.size, 0, none⟩ 1 1 [.int .i64 (k : Int)] rfl rfl ?c1 ?c2 (by decide) ?c3 ?c4 ?c5 (w2.heap.size + 1) (size_alloc _ _) ?_)
        · intro j u hj
          match j, hj with
          | 0, hj => simp at hj; subst hj; simp [Addr.add]
        · intro u hu; simp at hu; subst hu; rfl
        · unfold maxLen; omega
        · omega
        · rw [size_alloc]; omega
        intro g4 cap4 w4 hown4 hgr4 hat4 hlt4
        have hE5 : Ext W2 w4 := Below.grown (HE2'.out.alloc _) hgr4 (by rw [size_alloc]; omega) (fun j hj => (HO2.out.lt j hj).1)
        have HO4 := Lib.hid hown4
        have HE4 := Lib.hid hE5
        clear hown4 hgr4 hat4 hlt4 hE5 HO2 HE2' hsz3
        go_wp2
        go_roundw
        case rel => exact ⟨k + 1, by omega, by go_num, HE4.out, by rw [HSN2.out, intVs_snoc, List.length_append]; exact HO4.out⟩
        case measure => simp [intOf]; omega
    · obtain rfl : k = 100 := by omega
      go_wp2
      go_ret2
      exact ⟨_, by rw [HOK.out.2]; rfl, by rw [Int.toNat_natCast, HOK.out.1]; exact ownsRow_base HO.out (HCE.out W2 (Ext.refl _)).2.2.2.size, (HCE.out _ HER.out).2.2.2⟩
end Go.Proofs.YtppncdbhebgcaaaDoor
namespace Go.Proofs.YtppncdbhebgcaaaDoor
open Go.RowKit

theorem own_shape {w : World} {B : Nat} {e : TypeId} {size : Nat} {v : Value} {n : Nat} {xs : List Value} (h : w.ownsRow B e size v n xs) : ∃ a c, v = .slice a n c := by
  rcases h.2 with ⟨rfl, h0⟩ | ⟨g, cap, cur, rfl, -⟩
  · exact ⟨none, 0, by rw [h0]⟩
  · exact ⟨_, _, rfl⟩
end Go.Proofs.YtppncdbhebgcaaaDoor
namespace Go.Proofs.YtppncdbhebgcaaaDoor
open Go.RowKit

theorem shows_eq {M : Mt} (hM : ValidM M) {a : Nat} (ha : a ≤ M.weeks.length) : pickTo (showF M a) 100 = (showsL M a).map fun t : Nat => (t : Int) := by
  unfold pickTo showsL
  refine congrArg (List.map fun t : Nat => (t : Int)) (List.filter_congr fun s hs => ?_)
  rw [List.mem_range] at hs
  unfold showF
  rw [wrongs_eq hM (by omega) (by omega) ha]

theorem shows_mem {M : Mt} (hM : ValidM M) {a : Nat} (ha : a ≤ M.weeks.length) {x : Int} : x ∈ pickTo (showF M a) 100 ↔ ShownP M a x := by
  rw [shows_eq hM ha, List.mem_map]
  constructor
  · rintro ⟨n, hn, rfl⟩
    exact (mem_showsL hM ha).1 hn
  · intro h
    have h0 : 0 ≤ x := by
      obtain ⟨D, -, e⟩ := h
      omega
    obtain ⟨n, rfl⟩ : ∃ n : Nat, x = n := ⟨x.toNat, by omega⟩
    exact ⟨n, (mem_showsL hM ha).2 h, rfl⟩
end Go.Proofs.YtppncdbhebgcaaaDoor
namespace Go.Proofs.YtppncdbhebgcaaaDoor
open Go.RowKit

end Go.Proofs.YtppncdbhebgcaaaDoor
namespace Go.Proofs.YtppncdbhebgcaaaDoor
open Go.RowKit

end Go.Proofs.YtppncdbhebgcaaaDoor
namespace Go.Proofs.YtppncdbhebgcaaaDoor
open Go.RowKit

end Go.Proofs.YtppncdbhebgcaaaDoor
namespace Go.Proofs.YtppncdbhebgcaaaDoor
open Go.RowKit

def roundsTo (M : Mt) (k : Nat) : Int × Int := (List.range k).foldl (roundsStep M) (1073741824, -1)
theorem roundsTo_succ (M : Mt) (k : Nat) : roundsTo M (k + 1) = roundsStep M (roundsTo M k) k := by
  unfold roundsTo
  rw [List.range_succ, List.foldl_append, List.foldl_cons, List.foldl_nil]
noncomputable def roundLo (M : Mt) : Int := okN (askV M true) (roundsN M).1
noncomputable def roundHi (M : Mt) : Int := okN (askV M true) (roundsN M).2
theorem roundEnd04 (M : Mt) {w W : World} {s : Nat} {a : Act} (lo hi z : Int) {x y : Value} {t : TypeId} (hk : roundLo M = lo ∧ roundHi M = hi ∧ askV M true = z) (hE : Ext w W)
    (hm : W.heap[s]? = some (.cells #[x, y] t)) (hs : w.heap.size ≤ s) (ha : a.tmps[2]? = some (.pointer (some ⟨s, 0, none⟩))) (hb : a.tmps[3]? = some (.int .i64 z)) (hd : a.defers = []) :
    bodyPost Tryd.prog Tryd.f10 (RetSp (roundLo M) (roundHi M) (askV M true) w) .ret a ((W.setCell ⟨s, 0, none⟩ (.int .i64 lo)).setCell ⟨s, 1, none⟩ (.int .i64 hi)) := by
  have h := heap_pair (y0 := .int .i64 lo) (y1 := .int .i64 hi) hm
  have c0 := cell_of_heap h 0
  have c1 := cell_of_heap h 1
  simp at c0 c1
  refine bodyPost_ret (v := .tuple #[.agg #[.int .i64 lo, .int .i64 hi], .int .i64 z]) ?_ hd ⟨by rw [hk.1, hk.2.1, hk.2.2], Ext.setCell (Ext.setCell hE (p := ⟨s, 0, none⟩) hs _) (p := ⟨s, 1, none⟩) hs _⟩
  cases a with
  | mk tm df =>
    simp only at ha hb
    simp [results, Tryd.results10, go_sem, ha, hb, c0, c1]
theorem quo100 {x : Int} (h0 : 0 ≤ x) (h1 : x < 100000) : IntKind.i64.wrap (x.tdiv 100) = x / 100 := by
  rw [Int.tdiv_eq_ediv_of_nonneg h0]
  exact IntWalk.i64_in _ (by omega)
theorem pair_keep {w w' : World} {b : Nat} {t : TypeId} {x y : Value} (h : w.heap[b]? = some (.cells #[x, y] t)) (hE : Ext w w') : w'.heap[b]? = some (.cells #[x, y] t) :=
  (hE.block b (Array.getElem?_eq_some_iff.1 h).1).trans h

set_option maxRecDepth 20000 in
set_option maxHeartbeats 16000000 in
theorem Rounds04 (M : Mt) (v : Value) (w : World) (hv : MtV w v M) (h1 : M.weeks.length ≤ 1000) (h2 : M.reads.length ≤ 1000) (hT : TabW w) :
    Calls Tryd.prog 10 #[v] w (RetSp (roundLo M) (roundHi M) (askV M true) w) := by
  have HV := Lib.hid hv
  have HT := Lib.hid hT
  obtain ⟨p, c, qq, d, rfl, hp, hq⟩ := hv
  have HP := Lib.hid hp
  have HQ := Lib.hid hq
  clear hp hq hT
  go_enter Tryd.func10, Tryd.ntmps10
  go_upto_region 1 with (fail)
  obtain ⟨s0, hs0'⟩ : ∃ s0, s0 = w.heap.size := ⟨_, rfl⟩
  generalize hW : World.alloc _ _ = W
  have m0 : W.heap[s0]? = some (.cells #[.slice p M.weeks.length c, .slice qq M.reads.length d, .int .i64 M.wrong] 31) := by rw [hs0']; exact heap_at0 (by rw [← hW]; exact (by repeat (first | exact Ext.refl _ | assumption | refine Ext.drewN ?_ _ | refine Ext.drew ?_ | refine Ext.alloc ?_ _)))
  have m1 : W.heap[s0 + 1]? = some (.cells #[.int .i64 0, .int .i64 0] 43) := by rw [hs0', ← hW]; exact heap_new2 _ _ _
  have hE : Ext w W := by rw [← hW]; exact (by repeat (first | exact Ext.refl _ | assumption | refine Ext.drewN ?_ _ | refine Ext.drew ?_ | refine Ext.alloc ?_ _))
  rw [← hs0']
  have m00 := ExtW.cell (v := .slice p M.weeks.length c) (cell_of_heap m0 0)
  have m01 := ExtW.cell (v := .slice qq M.reads.length d) (cell_of_heap m0 1)
  have m02 := ExtW.cell (v := .int .i64 M.wrong) (cell_of_heap m0 2)
  have HC2 := Lib.hid m02
  have HC1 := Lib.hid m01
  have HC0 := Lib.hid m00
  have HE := Lib.hid hE
  have HM1 := Lib.hid m1
  have m10 := ExtW.cell (v := .int .i64 0) (cell_of_heap m1 0)
  have m11 := ExtW.cell (v := .int .i64 0) (cell_of_heap m1 1)
  have f10 : ∀ x : ExtW W, x.w.frozen? ⟨s0 + 1, 0, none⟩ = false := fun x => cell_frozen ((x.h.block _ (Array.getElem?_eq_some_iff.1 m1).1).trans m1) 0
  have f11 : ∀ x : ExtW W, x.w.frozen? ⟨s0 + 1, 1, none⟩ = false := fun x => cell_frozen ((x.h.block _ (Array.getElem?_eq_some_iff.1 m1).1).trans m1) 1
  have HS0 := Lib.hid (show w.heap.size ≤ s0 + 1 from by omega)
  have HAK := Lib.hid (fun is (x : ExtW W) => ExtW.call (ask04 M is _ x.w (HV.out.ext (hE.trans x.h)) h1 h2))
  have HMK := Lib.hid (fun x : ExtW W => ExtW.call (masks04 x.w))
  obtain ⟨x0, hx0⟩ := ExtW.of (Ext.refl W)
  clear hW m0 m1 hE hs0'
  conv => arg 5; rw [hx0]
  clear hx0
  have HAT := Lib.hid (HAK.out true)
  obtain ⟨z, hz⟩ : ∃ z, askV M true = z := ⟨_, rfl⟩
  rw [hz] at HAT
  by_cases hz0 : z = 0
  case neg =>
    have HOK := Lib.hid (show roundLo M = 0 ∧ roundHi M = 0 ∧ askV M true = z from by
      refine ⟨?_, ?_, hz⟩
      · unfold roundLo; rw [hz, okN_ne hz0]
      · unfold roundHi; rw [hz, okN_ne hz0])
    have g1 : (z == 0) = false := by simpa using hz0
    have g2 : decide (z = 0) = false := by simpa using hz0
    clear hz hz0
    go_wp2_with (go_at_call 18; refine (HAT.out _).mono ?_; rintro e w1 ⟨rfl, x1, rfl⟩)
    refine roundEnd04 M _ _ _ HOK.out (HE.out.trans x1.h) ((x1.h.block _ (Array.getElem?_eq_some_iff.1 HM1.out).1).trans HM1.out) HS0.out ?_ ?_ ?_ <;> rfl
  subst hz0
  obtain ⟨hM, -⟩ := askV_0 hz
  have HVM := Lib.hid hM
  have hn5 := hM.nw
  have HOK := Lib.hid (show roundLo M = (roundsTo M 100).1 ∧ roundHi M = (roundsTo M 100).2 ∧ askV M true = 0 from by
      refine ⟨?_, ?_, hz⟩
      · unfold roundLo; rw [hz, okN_0 rfl]; rfl
      · unfold roundHi; rw [hz, okN_0 rfl]; rfl)
  clear hz hM m10 m11 f10 f11
  go_upto_region 4 with (go_at_call 18; refine (HAT.out _).mono ?_; rintro e w1 ⟨rfl, x1, rfl⟩)
  go_upto_region 5 with (first
    | (go_at_call 21; refine (HMK.out _).mono ?_; rintro e w2 ⟨rfl, x2, rfl⟩)
    | (refine guardL (.store 69 (.tmp 5) (.tmp 16)) rfl ?_; rw [zero2400]; refine wpList_storeB 69 _ _ iMasks rfl rfl rfl rfl (Blk.new' rfl _ _ _ _) (Nat.le_refl _) ?_))
  have bm := ((Blk.new' (w := x2.w) rfl 69 2400 .u64 (fun _ => 0)).sets 0 mskF 2400).congr (g := mskF) (fun j hj => by rw [if_pos (by omega), Nat.sub_zero])
  have hE2 : Ext W ((x2.w.alloc (.cells (rowV 2400 .u64 (fun _ => 0)) 69)).setCells x2.w.heap.size 0 (rowV 2400 .u64 mskF).toList) := (x2.h.alloc _).setCells x2.h.size _ _
  obtain ⟨mb, hmb⟩ : ∃ mb, mb = x2.w.heap.size := ⟨_, rfl⟩
  rw [← hmb] at bm hE2 ⊢
  generalize World.setCells _ _ _ _ = W2 at bm hE2 ⊢
  have HBM := Lib.hid bm
  have HE2 := Lib.hid hE2
  have HCE := Lib.hid (fun y (h : Ext W2 y) => (⟨HC0.out ⟨y, hE2.trans h⟩, HC1.out ⟨y, hE2.trans h⟩, HC2.out ⟨y, hE2.trans h⟩, HE.out.trans (hE2.trans h), pair_keep HM1.out (hE2.trans h), HBM.out.ext h⟩ :
    y.cell? ⟨s0, 0, none⟩ = some (.slice p M.weeks.length c) ∧ y.cell? ⟨s0, 1, none⟩ = some (.slice qq M.reads.length d) ∧ y.cell? ⟨s0, 2, none⟩ = some (.int .i64 M.wrong) ∧ Ext w y ∧ y.heap[s0 + 1]? = some (.cells #[.int .i64 0, .int .i64 0] 43) ∧ Blk y mb 69 2400 .u64 mskF))
  clear bm hE2 hmb m00 m01 m02
  go_upto_region 6 with (fail)
  have hb3 : (W2.alloc (.cells #[.int .i64 1073741824, .int .i64 (-1)] 43)).heap[W2.heap.size]? = some (.cells #[.int .i64 1073741824, .int .i64 (-1)] 43) := heap_new _ _
  have hE3 : Ext W2 (W2.alloc (.cells #[.int .i64 1073741824, .int .i64 (-1)] 43)) := Ext.alloc (Ext.refl _) _
  obtain ⟨bt, hbt⟩ : ∃ bt, bt = W2.heap.size := ⟨_, rfl⟩
  rw [← hbt] at hb3 ⊢
  generalize World.alloc W2 _ = W3 at hb3 hE3 ⊢
  have HB3 := Lib.hid hb3
  have HE3 := Lib.hid hE3
  have HBT := Lib.hid hbt
  obtain ⟨k0, k1, k2, k3, -⟩ := HCE.out W3 hE3
  have HEN := Lib.hid (ends04 M HVM.out M.weeks.length mb 69 p qq c d W3 (HP.out.ext k3) (HQ.out.ext k3) (HCE.out W3 hE3).2.2.2.2.2 (Nat.le_refl _))
  clear hb3 hE3 hbt k3
  go_upto_region 7 with (first
    | (go_at_call 23; refine HEN.out.mono ?_; rintro e w1 ⟨rfl, hE1⟩)
    | (refine guardL (.store 73 (.tmp 7) (.tmp 22)) rfl ?_; rw [zero100]; refine wpList_storeB 73 _ _ iInts rfl rfl rfl rfl (Blk.new' rfl _ _ _ _) (Nat.le_refl _) ?_))
  have be := ((Blk.new' (w := w1) rfl 73 100 .i64 (fun _ => 0)).sets 0 (endF M M.weeks.length) 100).congr (g := endF M M.weeks.length) (fun j hj => by rw [if_pos (by omega), Nat.sub_zero])
  have hE4 : Ext W3 ((w1.alloc (.cells (rowV 100 .i64 (fun _ => 0)) 73)).setCells w1.heap.size 0 (rowV 100 .i64 (endF M M.weeks.length)).toList) := (hE1.alloc _).setCells hE1.size _ _
  have hlt : bt < w1.heap.size := Nat.lt_of_lt_of_le (Array.getElem?_eq_some_iff.1 HB3.out).1 hE1.size
  obtain ⟨eb, heb⟩ : ∃ eb, eb = w1.heap.size := ⟨_, rfl⟩
  rw [← heb] at be hE4 hlt ⊢
  generalize World.setCells _ _ _ _ = W4 at be hE4 ⊢
  have HB4 := Lib.hid (pair_keep HB3.out hE4)
  have HBE := Lib.hid be
  have hE24 := HE3.out.trans hE4
  have hle : W2.heap.size ≤ bt := by have := HBT.out; omega
  have HK := Lib.hid (fun y (h : Ups bt W4 y) => (⟨HCE.out y (hE24.ups h hle), be.ups h (by omega)⟩ :
    (y.cell? ⟨s0, 0, none⟩ = some (.slice p M.weeks.length c) ∧ y.cell? ⟨s0, 1, none⟩ = some (.slice qq M.reads.length d) ∧ y.cell? ⟨s0, 2, none⟩ = some (.int .i64 M.wrong) ∧ Ext w y ∧ y.heap[s0 + 1]? = some (.cells #[.int .i64 0, .int .i64 0] 43) ∧ Blk y mb 69 2400 .u64 mskF) ∧ Blk y eb 73 100 .i64 (endF M M.weeks.length)))
  clear be hE4 hlt heb hE1 HEN k0 k1 k2 hE24 hle
  go_wp2
  go_loopw [23] (fun i wr => ∃ k : Nat, k ≤ 100 ∧ i = .int .i64 k ∧ Ups bt W4 wr ∧ wr.heap[bt]? = some (.cells #[.int .i64 (roundsTo M k).1, .int .i64 (roundsTo M k).2] 43)) (fun i _ => 100 - (intOf i).toNat)
  case atStart => exact ⟨0, by omega, rfl, Ups.refl _ _, HB4.out⟩
  case round =>
    obtain ⟨k, hk, rfl, hU, hB⟩ := hrel
    have HUR := Lib.hid hU
    have HBR := Lib.hid hB
    obtain ⟨⟨k0, k1, k2, k3, k4, k5⟩, k6⟩ := HK.out wr hU
    have HEW := Lib.hid k3
    have HZ := Lib.hid k4
    by_cases hlt : k < 100
    · have hlt' : (k : Int) < 100 := by omega
      have hsm : Calls Tryd.prog 24 #[.agg #[.slice p M.weeks.length c, .slice qq M.reads.length d, .int .i64 M.wrong], .int .i64 0, .int .i64 (M.weeks.length : Int), .int .i64 (k : Int), .pointer (some ⟨mb, 0, none⟩), .pointer (some ⟨eb, 0, none⟩)] wr (RetE (setV (sumsF M 0 M.weeks.length (k : Int))) wr) :=
        sums04 M HVM.out 0 M.weeks.length mb eb 69 73 (k : Int) p qq c d wr (HP.out.ext k3) (HQ.out.ext k3) k5 k6 (Nat.zero_le _) (Nat.le_refl _) (by omega) (by omega)
      have hXL : bitsI (sumsF M 0 M.weeks.length (k : Int)) = (roundL M k).map fun t : Nat => (t : Int) := by
        rw [bitsI_eq, sums_eq HVM.out (by omega) (by omega) (Nat.zero_le _) (Nat.le_refl _)]; rfl
      have hsu := roundsTo_succ M k
      obtain ⟨X, hX⟩ : ∃ X, X = sumsF M 0 M.weeks.length (k : Int) := ⟨_, rfl⟩
      rw [← hX] at hsm hXL
      have HSM := Lib.hid hsm
      unfold setV at HSM
      have HAL := Lib.hid (fun y (h : Ext wr y) => all04 X y (HT.out.ext (k3.trans h)))
      unfold setV at HAL
      clear hX hsm hU hB k3 k4 k5 k6
      by_cases hne : roundL M k = []
      · rw [hne] at hXL
        rw [hXL] at HAL
        unfold roundsStep at hsu
        rw [if_pos hne] at hsu
        have HB5 := Lib.hid (show wr.heap[bt]? = some (.cells #[.int .i64 (roundsTo M (k + 1)).1, .int .i64 (roundsTo M (k + 1)).2] 43) from by rw [hsu]; exact HBR.out)
        clear hne hXL hsu HBR
        go_upto_region 11 with (first
          | (go_at_call 24; refine HSM.out.mono ?_; rintro e w1 ⟨rfl, hE1⟩)
          | (go_at_call 20; refine (HAL.out _ hE1).mono ?_; rintro e w3 ⟨u, rfl, hO, hE3⟩; obtain ⟨ua, uc, rfl⟩ := own_shape hO))
        have HU3 := Lib.hid (HUR.out.trans (Ups.ext (hE1.trans hE3)))
        have HB6 := Lib.hid (pair_keep HB5.out (hE1.trans hE3))
        clear hO hE1 hE3 HSM HAL k0 k1 k2 HUR HB5
        go_wp2
        go_roundw
        case rel => exact ⟨k + 1, by omega, by simp, HU3.out, HB6.out⟩
        case measure => simp [intOf]; omega
      · obtain ⟨a0, ha0⟩ : ∃ a0 : Nat, a0 = (roundL M k).headD 0 := ⟨_, rfl⟩
        obtain ⟨a1, ha1⟩ : ∃ a1 : Nat, a1 = (roundL M k).getLastD 0 := ⟨_, rfl⟩
        have hsp := span_of_list (bitsN_rises _ : (roundL M k).Pairwise (· < ·)) hne
        have hb0 : a0 < 1536 := by rw [ha0]; exact (mem_bitsN.1 hsp.1.1).1
        have hb1 : a1 < 1536 := by rw [ha1]; exact (mem_bitsN.1 hsp.1.2).1
        obtain ⟨m, l, hl, hlm, hl0, hl1⟩ : ∃ (m : Nat) (l : List Int), bitsI X = l ∧ l.length = m + 1 ∧ (intVs l)[0]? = some (.int .i64 (a0 : Int)) ∧ (intVs l)[m]? = some (.int .i64 (a1 : Int)) := week_ends hne hXL (by rw [ha0]) (by rw [ha1])
        have hmb : m < 1536 := by have h : (bitsI X).length ≤ 1536 := bitsTo_len _ 1536; rw [hl, hlm] at h; omega
        rw [hl, hlm] at HAL
        unfold roundsStep at hsu
        rw [if_neg hne, ← ha0, ← ha1] at hsu
        obtain ⟨lo, hlo⟩ : ∃ lo, lo = (roundsTo M k).1 := ⟨_, rfl⟩
        obtain ⟨hi, hhi⟩ : ∃ hi, hi = (roundsTo M k).2 := ⟨_, rfl⟩
        rw [← hlo, ← hhi] at hsu
        rw [← hlo, ← hhi] at HBR
        obtain ⟨q0, hq0⟩ : ∃ q0 : Int, ((k : Int) + (a0 : Int)) / 100 = q0 := ⟨_, rfl⟩
        obtain ⟨q1, hq1⟩ : ∃ q1 : Int, ((k : Int) + (a1 : Int)) / 100 = q1 := ⟨_, rfl⟩
        rw [Int.natCast_add, Int.natCast_add, hq0, hq1] at hsu
        have z1 : IntKind.i64.wrap ((k : Int) + (a0 : Int)) = (k : Int) + (a0 : Int) := IntWalk.i64_in _ (by omega)
        have z2 : IntKind.i64.wrap ((k : Int) + (a1 : Int)) = (k : Int) + (a1 : Int) := IntWalk.i64_in _ (by omega)
        have z3 : IntKind.i64.wrap (((k : Int) + (a0 : Int)).tdiv 100) = q0 := by rw [← hq0]; exact quo100 (by omega) (by omega)
        have z4 : IntKind.i64.wrap (((k : Int) + (a1 : Int)).tdiv 100) = q1 := by rw [← hq1]; exact quo100 (by omega) (by omega)
        obtain ⟨lo2, hlo2⟩ : ∃ lo2 : Int, min lo q0 = lo2 := ⟨_, rfl⟩
        obtain ⟨hi2, hhi2⟩ : ∃ hi2 : Int, max hi q1 = hi2 := ⟨_, rfl⟩
        have HI0 := Lib.hid (show (if q0 < lo then q0 else lo) = lo2 from by rw [← hlo2]; split <;> omega)
        have HI1 := Lib.hid (show (if hi < q1 then q1 else hi) = hi2 from by rw [← hhi2]; split <;> omega)
        rw [hlo2, hhi2] at hsu
        have HSU := Lib.hid hsu
        have hm1 : IntKind.i64.wrap (m : Int) = m := IntWalk.i64_in _ (by omega)
        have hm2 : IntKind.i64.wrap ((m : Int) + 1) = (m : Int) + 1 := IntWalk.i64_in _ (by omega)
        have hm3 : (m : Int) < (m : Int) + 1 := by omega
        have hm4 : (0 : Int) ≤ (m : Int) := by omega
        have hm5 : (0 : Int) < (m : Int) + 1 := by omega
        have HL0 := Lib.hid hl0
        have HL1 := Lib.hid hl1
        clear hne hXL hsu ha0 ha1 hsp hlo hhi hq0 hq1 hlo2 hhi2 hl hlm hl0 hl1
        go_upto_region 12 with (first
          | (go_at_call 24; refine HSM.out.mono ?_; rintro e w1 ⟨rfl, hE1⟩)
          | (go_at_call 20; refine (HAL.out _ hE1).mono ?_; rintro e w3 ⟨u, rfl, hO, hE3⟩; obtain ⟨ua, uc, rfl⟩ := own_shape hO))
        obtain ⟨g, cap, he, hc0⟩ := ownsRow_at hO 0 (by omega)
        cases he
        obtain ⟨g', cap', he, hc1⟩ := ownsRow_at hO m (by omega)
        cases he
        rw [HL0.out] at hc0
        rw [HL1.out] at hc1
        have HU3 := Lib.hid (HUR.out.trans (Ups.ext (hE1.trans hE3)))
        have hB3 := pair_keep HBR.out (hE1.trans hE3)
        have HB3' := Lib.hid hB3
        have HKC := Lib.hid (fun y (h : Ext w3 y) => (⟨h.cell hc0, h.cell hc1, cell_of_heap (pair_keep hB3 h) 0, cell_of_heap (pair_keep hB3 h) 1⟩ :
          y.cell? ⟨g, 0, none⟩ = some (.int .i64 (a0 : Int)) ∧ y.cell? ⟨g, m, none⟩ = some (.int .i64 (a1 : Int)) ∧ y.cell? ⟨bt, 0, none⟩ = some (.int .i64 lo) ∧ y.cell? ⟨bt, 1, none⟩ = some (.int .i64 hi)))
        clear hO hE1 hE3 HSM HAL k0 k1 k2 HUR HBR hc0 hc1 hB3 hm5
        refine wp_region_facts 22 [[], [0], [], [], [3], [4], [2, 5], [6], [1, 7], [], [9], [], [], [], [13], [14], [12, 15], [16], [11, 17], [18], [10, 19], [8, 20]] [21] Ext (FL [Is (.pointer (some ⟨bt, 0, none⟩)), Is (.int .i64 lo), Is (.int .i64 (k : Int)), Is (.slice (some ⟨g, 0, none⟩) (m + 1) uc), Is (.pointer (some ⟨g, 0, none⟩)), Is (.int .i64 (a0 : Int)), Is (.int .i64 ((k : Int) + (a0 : Int))), Is (.int .i64 q0), Is (.int .i64 lo2), Is (.pointer (some ⟨bt, 1, none⟩)), Is (.int .i64 hi), Is (.int .i64 (k : Int)), Is (.slice (some ⟨g, 0, none⟩) (m + 1) uc), Is (.slice (some ⟨g, 0, none⟩) (m + 1) uc), Is (.int .i64 ((m : Int) + 1)), Is (.int .i64 (m : Int)), Is (.pointer (some ⟨g, m, none⟩)), Is (.int .i64 (a1 : Int)), Is (.int .i64 ((k : Int) + (a1 : Int))), Is (.int .i64 q1), Is (.int .i64 hi2), Is (.agg #[.int .i64 lo2, .int .i64 hi2])]) (by kernel_rfl) (by kernel_rfl) Ext.refl (fun _ _ _ => Ext.trans) (fun _ _ => Ext.size) (FL.mono ⟨Is.mono, Is.mono, Is.mono, Is.mono, Is.mono, Is.mono, Is.mono, Is.mono, Is.mono, Is.mono, Is.mono, Is.mono, Is.mono, Is.mono, Is.mono, Is.mono, Is.mono, Is.mono, Is.mono, Is.mono, Is.mono, Is.mono, trivial⟩) ⟨?_, ?_, ?_, ?_, ?_, ?_, ?_, ?_, ?_, ?_, ?_, ?_, ?_, ?_, ?_, ?_, ?_, ?_, ?_, ?_, ?_, ?_, trivial⟩ ?_
        · refine opF_step ?_
          intro ys l0 h0 w' hr hf K hK
          clear hf
          simp only [fill, Act.put, dstO, List.take_succ_cons, List.take_zero, List.setIfInBounds_toArray, List.set_cons_zero, List.set_cons_succ, List.getElem?_cons_zero, Nat.zero_add, Nat.reduceAdd] at hK ⊢
          refine OpB.mk' ?_
          go_simp
          exact hK.out _ _ rfl (Ext.refl _)
        · refine opF_step ?_
          intro ys l0 h0 w' hr hf K hK
          obtain ⟨f0, -⟩ := hf
          have e0 : ys 0 = _ := f0
          obtain ⟨j0, j1, j2, j3⟩ := HKC.out w' ((Ext.refl w3).drew.trans hr)
          simp only [fill, Act.put, dstO, List.take_succ_cons, List.take_zero, List.setIfInBounds_toArray, List.set_cons_zero, List.set_cons_succ, List.getElem?_cons_zero, List.getElem?_cons_succ, Nat.zero_add, Nat.reduceAdd] at hK ⊢
          simp only [e0] at hK ⊢
          clear e0 f0
          refine OpB.mk' ?_
          go_simp
          exact hK.out _ _ rfl (Ext.refl _)
        · refine opF_step ?_
          intro ys l0 h0 w' hr hf K hK
          clear hf
          simp only [fill, Act.put, dstO, List.take_succ_cons, List.take_zero, List.setIfInBounds_toArray, List.set_cons_zero, List.set_cons_succ, List.getElem?_cons_zero, List.getElem?_cons_succ, Nat.zero_add, Nat.reduceAdd] at hK ⊢
          refine OpB.mk' ?_
          go_simp
          exact hK.out _ _ rfl (Ext.refl _)
        · refine opF_step ?_
          intro ys l0 h0 w' hr hf K hK
          clear hf
          simp only [fill, Act.put, dstO, List.take_succ_cons, List.take_zero, List.setIfInBounds_toArray, List.set_cons_zero, List.set_cons_succ, List.getElem?_cons_zero, List.getElem?_cons_succ, Nat.zero_add, Nat.reduceAdd] at hK ⊢
          refine OpB.mk' ?_
          go_simp
          exact hK.out _ _ rfl (Ext.refl _)
        · refine opF_step ?_
          intro ys l0 h0 w' hr hf K hK
          obtain ⟨f0, -⟩ := hf
          have e0 : ys 3 = _ := f0
          simp only [fill, Act.put, dstO, List.take_succ_cons, List.take_zero, List.setIfInBounds_toArray, List.set_cons_zero, List.set_cons_succ, List.getElem?_cons_zero, List.getElem?_cons_succ, Nat.zero_add, Nat.reduceAdd] at hK ⊢
          simp only [e0] at hK ⊢
          clear e0 f0
          refine OpB.mk' ?_
          go_simp
          exact hK.out _ _ rfl (Ext.refl _)
        · refine opF_step ?_
          intro ys l0 h0 w' hr hf K hK
          obtain ⟨f0, -⟩ := hf
          have e0 : ys 4 = _ := f0
          obtain ⟨j0, j1, j2, j3⟩ := HKC.out w' ((Ext.refl w3).drew.trans hr)
          simp only [fill, Act.put, dstO, List.take_succ_cons, List.take_zero, List.setIfInBounds_toArray, List.set_cons_zero, List.set_cons_succ, List.getElem?_cons_zero, List.getElem?_cons_succ, Nat.zero_add, Nat.reduceAdd] at hK ⊢
          simp only [e0] at hK ⊢
          clear e0 f0
          refine OpB.mk' ?_
          go_simp
          exact hK.out _ _ rfl (Ext.refl _)
        · refine opF_step ?_
          intro ys l0 h0 w' hr hf K hK
          obtain ⟨f0, f1, -⟩ := hf
          have e0 : ys 2 = _ := f0
          have e1 : ys 5 = _ := f1
          simp only [fill, Act.put, dstO, List.take_succ_cons, List.take_zero, List.setIfInBounds_toArray, List.set_cons_zero, List.set_cons_succ, List.getElem?_cons_zero, List.getElem?_cons_succ, Nat.zero_add, Nat.reduceAdd] at hK ⊢
          simp only [e0, e1] at hK ⊢
          clear e0 e1 f0 f1
          refine OpB.mk' ?_
          go_simp
          exact hK.out _ _ rfl (Ext.refl _)
        · refine opF_step ?_
          intro ys l0 h0 w' hr hf K hK
          obtain ⟨f0, -⟩ := hf
          have e0 : ys 6 = _ := f0
          simp only [fill, Act.put, dstO, List.take_succ_cons, List.take_zero, List.setIfInBounds_toArray, List.set_cons_zero, List.set_cons_succ, List.getElem?_cons_zero, List.getElem?_cons_succ, Nat.zero_add, Nat.reduceAdd] at hK ⊢
          simp only [e0] at hK ⊢
          clear e0 f0
          refine OpB.mk' ?_
          go_simp
          exact hK.out _ _ rfl (Ext.refl _)
        · refine opF_step ?_
          intro ys l0 h0 w' hr hf K hK
          obtain ⟨f0, f1, -⟩ := hf
          have e0 : ys 1 = _ := f0
          have e1 : ys 7 = _ := f1
          simp only [fill, Act.put, dstO, List.take_succ_cons, List.take_zero, List.setIfInBounds_toArray, List.set_cons_zero, List.set_cons_succ, List.getElem?_cons_zero, List.getElem?_cons_succ, Nat.zero_add, Nat.reduceAdd] at hK ⊢
          simp only [e0, e1] at hK ⊢
          clear e0 e1 f0 f1
          refine OpB.mk' ?_
          go_simp
          rw [HI0.out]
          exact hK.out _ _ rfl (Ext.refl _)
        · refine opF_step ?_
          intro ys l0 h0 w' hr hf K hK
          clear hf
          simp only [fill, Act.put, dstO, List.take_succ_cons, List.take_zero, List.setIfInBounds_toArray, List.set_cons_zero, List.set_cons_succ, List.getElem?_cons_zero, List.getElem?_cons_succ, Nat.zero_add, Nat.reduceAdd] at hK ⊢
          refine OpB.mk' ?_
          go_simp
          exact hK.out _ _ rfl (Ext.refl _)
        · refine opF_step ?_
          intro ys l0 h0 w' hr hf K hK
          obtain ⟨f0, -⟩ := hf
          have e0 : ys 9 = _ := f0
          obtain ⟨j0, j1, j2, j3⟩ := HKC.out w' ((Ext.refl w3).drew.trans hr)
          simp only [fill, Act.put, dstO, List.take_succ_cons, List.take_zero, List.setIfInBounds_toArray, List.set_cons_zero, List.set_cons_succ, List.getElem?_cons_zero, List.getElem?_cons_succ, Nat.zero_add, Nat.reduceAdd] at hK ⊢
          simp only [e0] at hK ⊢
          clear e0 f0
          refine OpB.mk' ?_
          go_simp
          exact hK.out _ _ rfl (Ext.refl _)
        · refine opF_step ?_
          intro ys l0 h0 w' hr hf K hK
          clear hf
          simp only [fill, Act.put, dstO, List.take_succ_cons, List.take_zero, List.setIfInBounds_toArray, List.set_cons_zero, List.set_cons_succ, List.getElem?_cons_zero, List.getElem?_cons_succ, Nat.zero_add, Nat.reduceAdd] at hK ⊢
          refine OpB.mk' ?_
          go_simp
          exact hK.out _ _ rfl (Ext.refl _)
        · refine opF_step ?_
          intro ys l0 h0 w' hr hf K hK
          clear hf
          simp only [fill, Act.put, dstO, List.take_succ_cons, List.take_zero, List.setIfInBounds_toArray, List.set_cons_zero, List.set_cons_succ, List.getElem?_cons_zero, List.getElem?_cons_succ, Nat.zero_add, Nat.reduceAdd] at hK ⊢
          refine OpB.mk' ?_
          go_simp
          exact hK.out _ _ rfl (Ext.refl _)
        · refine opF_step ?_
          intro ys l0 h0 w' hr hf K hK
          clear hf
          simp only [fill, Act.put, dstO, List.take_succ_cons, List.take_zero, List.setIfInBounds_toArray, List.set_cons_zero, List.set_cons_succ, List.getElem?_cons_zero, List.getElem?_cons_succ, Nat.zero_add, Nat.reduceAdd] at hK ⊢
          refine OpB.mk' ?_
          go_simp
          exact hK.out _ _ rfl (Ext.refl _)
        · refine opF_step ?_
          intro ys l0 h0 w' hr hf K hK
          obtain ⟨f0, -⟩ := hf
          have e0 : ys 13 = _ := f0
          simp only [fill, Act.put, dstO, List.take_succ_cons, List.take_zero, List.setIfInBounds_toArray, List.set_cons_zero, List.set_cons_succ, List.getElem?_cons_zero, List.getElem?_cons_succ, Nat.zero_add, Nat.reduceAdd] at hK ⊢
          simp only [e0] at hK ⊢
          clear e0 f0
          refine OpB.mk' ?_
          go_simp
          exact hK.out _ _ rfl (Ext.refl _)
        · refine opF_step ?_
          intro ys l0 h0 w' hr hf K hK
          obtain ⟨f0, -⟩ := hf
          have e0 : ys 14 = _ := f0
          simp only [fill, Act.put, dstO, List.take_succ_cons, List.take_zero, List.setIfInBounds_toArray, List.set_cons_zero, List.set_cons_succ, List.getElem?_cons_zero, List.getElem?_cons_succ, Nat.zero_add, Nat.reduceAdd] at hK ⊢
          simp only [e0] at hK ⊢
          clear e0 f0
          refine OpB.mk' ?_
          go_simp
          exact hK.out _ _ rfl (Ext.refl _)
        · refine opF_step ?_
          intro ys l0 h0 w' hr hf K hK
          obtain ⟨f0, f1, -⟩ := hf
          have e0 : ys 12 = _ := f0
          have e1 : ys 15 = _ := f1
          simp only [fill, Act.put, dstO, List.take_succ_cons, List.take_zero, List.setIfInBounds_toArray, List.set_cons_zero, List.set_cons_succ, List.getElem?_cons_zero, List.getElem?_cons_succ, Nat.zero_add, Nat.reduceAdd] at hK ⊢
          simp only [e0, e1] at hK ⊢
          clear e0 e1 f0 f1
          refine OpB.mk' ?_
          go_simp
          exact hK.out _ _ rfl (Ext.refl _)
        · refine opF_step ?_
          intro ys l0 h0 w' hr hf K hK
          obtain ⟨f0, -⟩ := hf
          have e0 : ys 16 = _ := f0
          obtain ⟨j0, j1, j2, j3⟩ := HKC.out w' ((Ext.refl w3).drew.trans hr)
          simp only [fill, Act.put, dstO, List.take_succ_cons, List.take_zero, List.setIfInBounds_toArray, List.set_cons_zero, List.set_cons_succ, List.getElem?_cons_zero, List.getElem?_cons_succ, Nat.zero_add, Nat.reduceAdd] at hK ⊢
          simp only [e0] at hK ⊢
          clear e0 f0
          refine OpB.mk' ?_
          go_simp
          exact hK.out _ _ rfl (Ext.refl _)
        · refine opF_step ?_
          intro ys l0 h0 w' hr hf K hK
          obtain ⟨f0, f1, -⟩ := hf
          have e0 : ys 11 = _ := f0
          have e1 : ys 17 = _ := f1
          simp only [fill, Act.put, dstO, List.take_succ_cons, List.take_zero, List.setIfInBounds_toArray, List.set_cons_zero, List.set_cons_succ, List.getElem?_cons_zero, List.getElem?_cons_succ, Nat.zero_add, Nat.reduceAdd] at hK ⊢
          simp only [e0, e1] at hK ⊢
          clear e0 e1 f0 f1
          refine OpB.mk' ?_
          go_simp
          exact hK.out _ _ rfl (Ext.refl _)
        · refine opF_step ?_
          intro ys l0 h0 w' hr hf K hK
          obtain ⟨f0, -⟩ := hf
          have e0 : ys 18 = _ := f0
          simp only [fill, Act.put, dstO, List.take_succ_cons, List.take_zero, List.setIfInBounds_toArray, List.set_cons_zero, List.set_cons_succ, List.getElem?_cons_zero, List.getElem?_cons_succ, Nat.zero_add, Nat.reduceAdd] at hK ⊢
          simp only [e0] at hK ⊢
          clear e0 f0
          refine OpB.mk' ?_
          go_simp
          exact hK.out _ _ rfl (Ext.refl _)
        · refine opF_step ?_
          intro ys l0 h0 w' hr hf K hK
          obtain ⟨f0, f1, -⟩ := hf
          have e0 : ys 10 = _ := f0
          have e1 : ys 19 = _ := f1
          simp only [fill, Act.put, dstO, List.take_succ_cons, List.take_zero, List.setIfInBounds_toArray, List.set_cons_zero, List.set_cons_succ, List.getElem?_cons_zero, List.getElem?_cons_succ, Nat.zero_add, Nat.reduceAdd] at hK ⊢
          simp only [e0, e1] at hK ⊢
          clear e0 e1 f0 f1
          refine OpB.mk' ?_
          go_simp
          rw [HI1.out]
          exact hK.out _ _ rfl (Ext.refl _)
        · refine opF_step ?_
          intro ys l0 h0 w' hr hf K hK
          obtain ⟨f0, f1, -⟩ := hf
          have e0 : ys 8 = _ := f0
          have e1 : ys 20 = _ := f1
          simp only [fill, Act.put, dstO, List.take_succ_cons, List.take_zero, List.setIfInBounds_toArray, List.set_cons_zero, List.set_cons_succ, List.getElem?_cons_zero, List.getElem?_cons_succ, Nat.zero_add, Nat.reduceAdd] at hK ⊢
          simp only [e0, e1] at hK ⊢
          clear e0 e1 f0 f1
          refine OpB.mk' ?_
          go_simp
          exact hK.out _ _ rfl (Ext.refl _)
        intro ys l0 h0 w2 hr hf hsp
        obtain ⟨f21, -⟩ := hf
        have e21 : ys 21 = _ := f21
        simp only [fill, Act.put, List.take_succ_cons, List.take_zero, List.setIfInBounds_toArray, List.set_cons_zero, List.set_cons_succ, Nat.zero_add, Nat.reduceAdd, List.drop_succ_cons, List.drop_zero]
        rw [e21]
        clear e21 f21 hsp
        have hU4 := HU3.out.drew.trans (Ups.ext hr)
        have hB4 := pair_keep HB3'.out ((Ext.refl w3).drew.trans hr)
        have HN := Lib.hid (heap_pair (y0 := .int .i64 lo2) (y1 := .int .i64 hi2) hB4)
        have HU4 := Lib.hid (show Ups bt W4 ((w2.setCell ⟨bt, 0, none⟩ (.int .i64 lo2)).setCell ⟨bt, 1, none⟩ (.int .i64 hi2)) from (hU4.setCell 0 _).setCell 1 _)
        have d0 := cell_of_heap hB4 0
        have d1 := cell_of_heap hB4 1
        have e0 : w2.frozen? ⟨bt, 0, none⟩ = false := cell_frozen hB4 0
        have e1 : w2.frozen? ⟨bt, 1, none⟩ = false := cell_frozen hB4 1
        clear hU4 hB4 hr HB3' HU3 HKC
        go_wp2
        go_roundw
        case rel => exact ⟨k + 1, by omega, by simp, HU4.out, by rw [HSU.out]; exact HN.out⟩
        case measure => simp [intOf]; omega
    · obtain rfl : k = 100 := by omega
      have c0 := cell_of_heap hB 0
      have c1 := cell_of_heap hB 1
      have c2 := cell_of_heap k4 0
      have c3 := cell_of_heap k4 1
      have e0 : wr.frozen? ⟨s0 + 1, 0, none⟩ = false := cell_frozen k4 0
      have e1 : wr.frozen? ⟨s0 + 1, 1, none⟩ = false := cell_frozen k4 1
      obtain ⟨lo, hlo⟩ : ∃ lo, lo = (roundsTo M 100).1 := ⟨_, rfl⟩
      obtain ⟨hi, hhi⟩ : ∃ hi, hi = (roundsTo M 100).2 := ⟨_, rfl⟩
      have hok := HOK.out
      rw [← hlo, ← hhi] at hok
      have HOK2 := Lib.hid hok
      simp only [List.getElem?_toArray, List.getElem?_cons_zero, List.getElem?_cons_succ, ← hlo, ← hhi] at c0 c1
      clear hok hlo hhi hU hB k0 k1 k2 k3 k4 k5 k6
      go_wp2
      refine roundEnd04 M _ _ _ HOK2.out HEW.out HZ.out HS0.out ?_ ?_ ?_ <;> rfl
end Go.Proofs.YtppncdbhebgcaaaDoor
