/- The walks of Far and ready. -/
import Derived.Test.YtpgjkmjejpfkmaaL07b
namespace Go.Proofs.Ytpgjkmjejpfkmaa
open Go.RowKit

/-- what every slice fulfils -/
structure Big (S : Swap) : Prop where
  boxes : S.boxes.length ≤ 9223372036854775807
  box : ∀ l ∈ S.boxes, l.length ≤ 9223372036854775807
  stock : S.stock.length ≤ 9223372036854775807
  earn : S.earn.length ≤ 9223372036854775807
  row : ∀ l ∈ S.earn, l.length ≤ 9223372036854775807
  keeps : S.keeps.length ≤ 9223372036854775807

/-- a visit that a statement leaves alone -/
def Wide (S : Swap) : Prop := FarL S.boxes ∨ FarL S.earn ∨ 40 < S.stock.length ∨ 40 < S.keeps.length
def FarS (S : Swap) : Prop := Wide S ∨ (Valid S ∧ (2 < S.boxes.length ∨ 5 < S.stock.length))

theorem modest_of {S : Swap} (h : ¬Wide S) : Modest S := by
  simp only [Wide, FarL, not_or, not_exists, not_and] at h
  obtain ⟨⟨h1, h2⟩, ⟨h3, h4⟩, h5, h6⟩ := h
  refine ⟨by omega, fun i hi => ?_, by omega, by omega, fun i hi => ?_, by omega⟩
  · have := h2 _ (List.getElem_mem hi); omega
  · have := h4 _ (List.getElem_mem hi); omega

set_option maxHeartbeats 1600000 in
theorem Far07 (v : Value) (S : Swap) (w : World) (hv : SwapV w v S) (hM : Big S) : Calls Try.prog 22 #[v] w (RetE (.bool (bP (FarS S))) w) := by
  have hv0 := hv
  obtain ⟨p0, c0, p1, c1, p2, c2, p3, c3, rfl, h0, h1, h2, h3⟩ := hv0
  have m1 := hM.stock
  have m3 := hM.keeps
  have m0 := hM.boxes
  have m2 := hM.earn
  go_enter Try.func22, Try.ntmps22
  go_upto_region 1 with (fail)
  have hn := heap_new w (.cells #[.slice p0 S.boxes.length c0, .slice p1 S.stock.length c1, .slice p2 S.earn.length c2, .slice p3 S.keeps.length c3, .int .i64 S.changes] 26)
  obtain ⟨W, hW⟩ : ∃ W, W = w.alloc (.cells #[.slice p0 S.boxes.length c0, .slice p1 S.stock.length c1, .slice p2 S.earn.length c2, .slice p3 S.keeps.length c3, .int .i64 S.changes] 26) := ⟨_, rfl⟩
  have hE : Ext w W := by rw [hW]; exact Ext.alloc (Ext.refl w) _
  rw [← hW] at hn ⊢
  have q0 := ExtW.cell (v := .slice p0 S.boxes.length c0) (cell_of_heap hn 0)
  have q1 := ExtW.cell (v := .slice p1 S.stock.length c1) (cell_of_heap hn 1)
  have q2 := ExtW.cell (v := .slice p2 S.earn.length c2) (cell_of_heap hn 2)
  have q3 := ExtW.cell (v := .slice p3 S.keeps.length c3) (cell_of_heap hn 3)
  have q4 := ExtW.cell (v := .int .i64 S.changes) (cell_of_heap hn 4)
  obtain ⟨x0, hx0⟩ := ExtW.of (Ext.refl W)
  clear hW hn
  conv => arg 5; rw [hx0]
  have HA := Lib.hid (fun x : ExtW W => ExtW.call (RetQ.e (farLists07 p0 S.boxes c0 x.w m0 hM.box (h0.ext (hE.trans x.h)))))
  have HB := Lib.hid (fun x : ExtW W => ExtW.call (RetQ.e (farLists07 p2 S.earn c2 x.w m2 hM.row (h2.ext (hE.trans x.h)))))
  have HV := Lib.hid hv
  clear h0 h1 h2 h3 hv
  by_cases fA : FarL S.boxes
  · have HA2 := HA.out
    rw [bP_t fA] at HA2
    have HA3 := Lib.hid HA2
    have FA := Lib.hid fA
    clear HA2 fA
    go_wp2_with fail
    refine (HA3.out _).mono ?_
    rintro e _ ⟨rfl, x1, rfl⟩
    go_wp2
    go_ret
    exact RetE.tt (hE.trans x1.h) (Or.inl (Or.inl FA.out))
  have HA2 := HA.out
  rw [bP_f fA] at HA2
  have HA3 := Lib.hid HA2
  have FA := Lib.hid fA
  clear HA2 fA HA
  by_cases fB : FarL S.earn
  · have HB2 := HB.out
    rw [bP_t fB] at HB2
    have HB3 := Lib.hid HB2
    have FB := Lib.hid fB
    clear HB2 fB
    go_wp2_with fail
    refine (HA3.out _).mono ?_
    rintro e _ ⟨rfl, x1, rfl⟩
    go_wp2_with fail
    refine (HB3.out _).mono ?_
    rintro e _ ⟨rfl, x2, rfl⟩
    go_wp2
    go_ret
    exact RetE.tt (hE.trans x2.h) (Or.inl (Or.inr (Or.inl FB.out)))
  have HB2 := HB.out
  rw [bP_f fB] at HB2
  have HB3 := Lib.hid HB2
  have FB := Lib.hid fB
  clear HB2 fB HB
  go_wp2_with fail
  refine (HA3.out _).mono ?_
  rintro e _ ⟨rfl, x1, rfl⟩
  go_wp2_with fail
  refine (HB3.out _).mono ?_
  rintro e _ ⟨rfl, x2, rfl⟩
  by_cases fC : 40 < S.stock.length
  · go_wp2
    go_ret
    exact RetE.tt (hE.trans x2.h) (Or.inl (Or.inr (Or.inr (Or.inl fC))))
  by_cases fD : 40 < S.keeps.length
  · go_wp2
    go_ret
    exact RetE.tt (hE.trans x2.h) (Or.inl (Or.inr (Or.inr (Or.inr fD))))
  have hw : ¬Wide S := by
    rintro (h | h | h | h)
    · exact FA.out h
    · exact FB.out h
    · exact fC h
    · exact fD h
  have HC := Lib.hid (ExtW.call (rCheck07 _ S x2.w (SwapV.mono _ _ _ _ (hE.trans x2.h) HV.out) (modest_of hw)))
  have HW := Lib.hid hw
  have FC := Lib.hid fC
  have FD := Lib.hid fD
  clear hw
  by_cases hS : Valid S
  · have HC2 := HC.out
    rw [chk_t hS] at HC2
    have HC3 := Lib.hid HC2
    have HS := Lib.hid hS
    clear HC2 HC hS
    by_cases g1 : 2 < S.boxes.length
    · go_wp2_with fail
      refine HC3.out.mono ?_
      rintro e _ ⟨rfl, x3, rfl⟩
      go_wp2
      go_ret
      exact RetE.tt (hE.trans x3.h) (Or.inr ⟨HS.out, Or.inl g1⟩)
    · go_wp2_with fail
      refine HC3.out.mono ?_
      rintro e _ ⟨rfl, x3, rfl⟩
      go_wp2
      go_ret
      refine RetE.of (hE.trans x3.h) ?_
      simp only [FarS]
      constructor
      · intro h
        have h' : 2 < (S.boxes.length : Int) ∨ 5 < (S.stock.length : Int) := by simpa using h
        exact Or.inr ⟨HS.out, by omega⟩
      · rintro (h | ⟨-, h | h⟩)
        · exact absurd h HW.out
        · exact absurd h g1
        · have h' : 2 < (S.boxes.length : Int) ∨ 5 < (S.stock.length : Int) := Or.inr (by omega)
          simpa using h'
  · have HC2 := HC.out
    rw [chk_f hS] at HC2
    have HC3 := Lib.hid HC2
    have HS := Lib.hid hS
    clear HC2 HC hS
    go_wp2_with fail
    refine HC3.out.mono ?_
    rintro e _ ⟨rfl, x3, rfl⟩
    go_wp2
    go_ret
    refine RetE.ff (hE.trans x3.h) ?_
    rintro (h | ⟨h, -⟩)
    · exact HW.out h
    · exact HS.out h

/-- a visit that a statement examines -/
def Ready (S : Swap) : Prop := Valid S ∧ S.boxes.length ≤ 2 ∧ S.stock.length ≤ 5
theorem not_wide_of_valid {S : Swap} (hS : Valid S) : ¬Wide S := by
  have h1 := hS.boxes
  have h2 := hS.stock
  have h3 := hS.earn
  have h4 := hS.keeps
  rintro ((h | ⟨l, hl, h⟩) | (h | ⟨l, hl, h⟩) | h | h)
  · omega
  · obtain ⟨i, hi, rfl⟩ := List.getElem_of_mem hl
    have := (hS.box i hi).1
    omega
  · omega
  · obtain ⟨i, hi, rfl⟩ := List.getElem_of_mem hl
    rw [hS.row i hi] at h
    omega
  · omega
  · omega
theorem ready_iff (S : Swap) : Ready S ↔ ¬FarS S ∧ Valid S := by
  constructor
  · rintro ⟨h1, h2, h3⟩
    refine ⟨?_, h1⟩
    rintro (h | ⟨-, h | h⟩)
    · exact not_wide_of_valid h1 h
    · omega
    · omega
  · rintro ⟨h1, h2⟩
    refine ⟨h2, Classical.byContradiction fun h => h1 (Or.inr ⟨h2, Or.inl (by omega)⟩), Classical.byContradiction fun h => h1 (Or.inr ⟨h2, Or.inr (by omega)⟩)⟩

set_option maxHeartbeats 800000 in
theorem ready07 (v : Value) (S : Swap) (w : World) (hv : SwapV w v S) (hM : Big S) : Calls Try.prog 14 #[v] w (RetE (.bool (bP (Ready S))) w) := by
  have hF := fun w' (h : Ext w w') => Far07 v S w' (SwapV.mono _ _ _ _ h hv) hM
  have hC := fun (hm : Modest S) w' (h : Ext w w') => rCheck07 v S w' (SwapV.mono _ _ _ _ h hv) hm
  obtain ⟨p0, c0, p1, c1, p2, c2, p3, c3, rfl, h0, h1, h2, h3⟩ := hv
  clear h0 h1 h2 h3
  have HF := Lib.hid hF
  have HC := Lib.hid hC
  clear hF hC
  go_enter Try.func14, Try.ntmps14
  go_upto_region 1 with (fail)
  have hn := heap_new w (.cells #[.slice p0 S.boxes.length c0, .slice p1 S.stock.length c1, .slice p2 S.earn.length c2, .slice p3 S.keeps.length c3, .int .i64 S.changes] 26)
  obtain ⟨W, hW⟩ : ∃ W, W = w.alloc (.cells #[.slice p0 S.boxes.length c0, .slice p1 S.stock.length c1, .slice p2 S.earn.length c2, .slice p3 S.keeps.length c3, .int .i64 S.changes] 26) := ⟨_, rfl⟩
  have hE : Ext w W := by rw [hW]; exact Ext.alloc (Ext.refl w) _
  rw [← hW] at hn ⊢
  have q0 := ExtW.cell (v := .slice p0 S.boxes.length c0) (cell_of_heap hn 0)
  have q1 := ExtW.cell (v := .slice p1 S.stock.length c1) (cell_of_heap hn 1)
  have q2 := ExtW.cell (v := .slice p2 S.earn.length c2) (cell_of_heap hn 2)
  have q3 := ExtW.cell (v := .slice p3 S.keeps.length c3) (cell_of_heap hn 3)
  have q4 := ExtW.cell (v := .int .i64 S.changes) (cell_of_heap hn 4)
  obtain ⟨x0, hx0⟩ := ExtW.of (Ext.refl W)
  clear hW hn
  conv => arg 5; rw [hx0]
  go_wp2_with fail
  refine (ExtW.call (HF.out _ (hE.trans x0.h))).mono ?_
  rintro e _ ⟨rfl, x1, rfl⟩
  by_cases hf : FarS S
  · rw [bP_t hf]
    have H := Lib.hid hf
    clear hf
    go_wp2
    go_ret
    exact RetE.ff (hE.trans x1.h) (fun h => ((ready_iff S).1 h).1 H.out)
  · rw [bP_f hf]
    have HW := Lib.hid (fun h : Wide S => hf (Or.inl h))
    have H := Lib.hid hf
    clear hf
    by_cases hS : Valid S
    · have hc := HC.out (modest_of HW.out) x1.w (hE.trans x1.h)
      rw [chk_t hS] at hc
      have HC2 := Lib.hid (ExtW.call hc)
      have HS := Lib.hid hS
      clear hc hS
      go_wp2_with fail
      refine HC2.out.mono ?_
      rintro e _ ⟨rfl, x2, rfl⟩
      go_wp2
      go_ret
      exact RetE.tt (hE.trans x2.h) ((ready_iff S).2 ⟨H.out, HS.out⟩)
    · have hc := HC.out (modest_of HW.out) x1.w (hE.trans x1.h)
      rw [chk_f hS] at hc
      have HC2 := Lib.hid (ExtW.call hc)
      have HS := Lib.hid hS
      clear hc hS
      go_wp2_with fail
      refine HC2.out.mono ?_
      rintro e _ ⟨rfl, x2, rfl⟩
      go_wp2
      go_ret
      exact RetE.ff (hE.trans x2.h) (fun h => HS.out ((ready_iff S).1 h).2)
end Go.Proofs.Ytpgjkmjejpfkmaa
