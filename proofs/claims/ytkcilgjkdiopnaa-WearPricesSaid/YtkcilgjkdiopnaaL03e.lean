/- The walks of Far, farPlan, ready and the reference's IsPlan. -/
import Derived.Test.YtkcilgjkdiopnaaL03d
namespace Go.Proofs.Ytkcilgjkdiopnaa
open Go.RowKit

/-- what every slice fulfils -/
structure BigW (X : Wr) : Prop where
  rough : X.rough.length ≤ 9223372036854775807
  recs : X.recs.length ≤ 9223372036854775807
  plays : ∀ r ∈ X.recs, r.plays.length ≤ 9223372036854775807
/-- what every plan fulfils -/
structure BigP (l : List Wk) : Prop where
  len : l.length ≤ 9223372036854775807
  recs : ∀ x ∈ l, x.recs.length ≤ 9223372036854775807

/-- a box that a statement leaves alone -/
def WideW (X : Wr) : Prop := 40 < X.rough.length ∨ 40 < X.recs.length ∨ ∃ r ∈ X.recs, 40 < r.plays.length
def FarW (X : Wr) : Prop := WideW X ∨ (ValidW X ∧ (4 < X.weeks ∨ 3 < X.recs.length))
def FarP (l : List Wk) : Prop := 40 < l.length ∨ ∃ x ∈ l, 40 < x.recs.length
/-- a box that a statement examines -/
def ReadyW (X : Wr) : Prop := ValidW X ∧ X.weeks ≤ 4 ∧ X.recs.length ≤ 3

theorem modest_of_w {X : Wr} (h : ¬WideW X) : ModestW X := by
  simp only [WideW, not_or, not_exists, not_and] at h
  obtain ⟨h1, h2, h3⟩ := h
  refine ⟨by omega, by omega, fun i hi => ?_⟩
  have := h3 _ (List.getElem_mem hi)
  omega
theorem not_wide_w {X : Wr} (hX : ValidW X) : ¬WideW X := by
  have h1 := hX.rough
  have h2 := hX.recs
  have h3 := hX.weeks
  rintro (h | h | ⟨r, hr, h⟩)
  · omega
  · omega
  · obtain ⟨i, hi, rfl⟩ := List.getElem_of_mem hr
    have := (hX.rc i hi).len
    omega
theorem modest_valid {X : Wr} (hX : ValidW X) : ModestW X := modest_of_w (not_wide_w hX)
theorem readyW_iff (X : Wr) : ReadyW X ↔ ¬FarW X ∧ ValidW X := by
  constructor
  · rintro ⟨h1, h2, h3⟩
    refine ⟨?_, h1⟩
    rintro (h | ⟨-, h | h⟩)
    · exact not_wide_w h1 h
    · omega
    · omega
  · rintro ⟨h1, h2⟩
    refine ⟨h2, Classical.byContradiction fun h => h1 (Or.inr ⟨h2, Or.inl (by omega)⟩), Classical.byContradiction fun h => h1 (Or.inr ⟨h2, Or.inr (by omega)⟩)⟩

set_option maxHeartbeats 1600000 in
theorem Far03 (v : Value) (X : Wr) (w : World) (hv : WrV w v X) (hM : BigW X) : Calls Try.prog 14 #[v] w (RetE (.bool (bP (FarW X))) w) := by
  have HV := Lib.hid hv
  obtain ⟨p, c, q, d, rfl, h1, h2⟩ := hv
  have m1 := hM.rough
  have m2 := hM.recs
  go_enter Try.func14, Try.ntmps14
  go_upto_region 1 with (fail)
  have hn := heap_new w (.cells (wrCells X p c q d) 25)
  unfold wrCells at hn
  obtain ⟨W, hW⟩ : ∃ W, W = w.alloc (.cells #[.int .i64 X.weeks, .int .i64 X.price, .int .i64 X.age, .int .i64 X.step, .slice p X.rough.length c, .slice q X.recs.length d] 25) := ⟨_, rfl⟩
  have hE : Ext w W := by rw [hW]; exact Ext.alloc (Ext.refl w) _
  rw [← hW] at hn ⊢
  have q0 := ExtW.cell (v := .int .i64 X.weeks) (cell_of_heap hn 0)
  have q1 := ExtW.cell (v := .int .i64 X.price) (cell_of_heap hn 1)
  have q2 := ExtW.cell (v := .int .i64 X.age) (cell_of_heap hn 2)
  have q3 := ExtW.cell (v := .int .i64 X.step) (cell_of_heap hn 3)
  have q4 := ExtW.cell (v := .slice p X.rough.length c) (cell_of_heap hn 4)
  have q5 := ExtW.cell (v := .slice q X.recs.length d) (cell_of_heap hn 5)
  obtain ⟨x0, hx0⟩ := ExtW.of (Ext.refl W)
  have k2 := h2.ext hE
  clear hW hn h1 h2
  conv => arg 5; rw [hx0]
  clear hx0
  by_cases fA : 40 < X.rough.length
  · go_wp2
    go_ret
    exact RetE.tt (hE.trans x0.h) (Or.inl (Or.inl fA))
  by_cases fB : 40 < X.recs.length
  · go_wp2
    go_ret
    exact RetE.tt (hE.trans x0.h) (Or.inl (Or.inr (Or.inl fB)))
  go_wp2
  go_loopw [3] (fun i wr => ∃ k : Nat, k ≤ X.recs.length ∧ i = .int .i64 k ∧ (∀ j (h : j < X.recs.length), j < k → X.recs[j].plays.length ≤ 40) ∧ ∃ x : ExtW W, wr = x.w) (fun i _ => X.recs.length - (intOf i).toNat)
  case atStart => exact ⟨0, by omega, rfl, fun j h hj => absurd hj (by omega), x0, rfl⟩
  case round =>
    clear x0
    obtain ⟨k, hk, rfl, hr, x, rfl⟩ := hrel
    have HR := Lib.hid hr
    clear hr
    by_cases hlt : k < X.recs.length
    · obtain ⟨b, o, q', c', rfl, -, -, -, hc4, -⟩ := k2.ext x.h k hlt
      have hmp := hM.plays _ (List.getElem_mem hlt)
      by_cases hp : 40 < X.recs[k].plays.length
      · go_wp2
        go_ret
        exact RetE.tt (hE.trans x.h) (Or.inl (Or.inr (Or.inr ⟨_, List.getElem_mem hlt, hp⟩)))
      · go_wp2
        go_roundw
        case rel => exact ⟨k + 1, by omega, by go_num, fun j h hj => by
            by_cases e : j < k
            · exact HR.out j h e
            · obtain rfl : j = k := by omega
              omega, x, rfl⟩
        case measure => simp [intOf]; omega
    · have hw : ¬WideW X := by
        rintro (h | h | ⟨r, hr, h⟩)
        · exact fA h
        · exact fB h
        · obtain ⟨i, hi, rfl⟩ := List.getElem_of_mem hr
          have := HR.out i hi (by omega)
          omega
      have HW := Lib.hid hw
      have hC := rCheck03 _ X x.w (WrV.mono _ _ _ _ (hE.trans x.h) HV.out) (modest_of_w hw)
      clear hw
      by_cases hX : ValidW X
      · rw [chkW_t hX] at hC
        have HC := Lib.hid (ExtW.call hC)
        have HX := Lib.hid hX
        clear hC hX
        by_cases g1 : 4 < X.weeks
        · go_wp2_with (go_at_call 20; refine HC.out.mono ?_; rintro e w' ⟨rfl, x2, rfl⟩)
          go_ret
          exact RetE.tt (hE.trans x2.h) (Or.inr ⟨HX.out, Or.inl g1⟩)
        · go_wp2_with (go_at_call 20; refine HC.out.mono ?_; rintro e w' ⟨rfl, x2, rfl⟩)
          go_ret
          refine RetE.of (hE.trans x2.h) ?_
          constructor
          · intro h
            have h' : 4 < X.weeks ∨ 3 < (X.recs.length : Int) := by simpa using h
            exact Or.inr ⟨HX.out, Or.inr (by omega)⟩
          · rintro (h | ⟨-, h | h⟩)
            · exact absurd h HW.out
            · omega
            · have h' : 4 < X.weeks ∨ 3 < (X.recs.length : Int) := Or.inr (by omega)
              simpa using h'
      · rw [chkW_f hX] at hC
        have HC := Lib.hid (ExtW.call hC)
        have HX := Lib.hid hX
        clear hC hX
        go_wp2_with (go_at_call 20; refine HC.out.mono ?_; rintro e w' ⟨rfl, x2, rfl⟩)
        go_ret
        refine RetE.ff (hE.trans x2.h) ?_
        rintro (h | ⟨h, -⟩)
        · exact HW.out h
        · exact HX.out h

set_option maxHeartbeats 800000 in
theorem farPlan03 (p : Option Addr) (l : List Wk) (c : Nat) (w : World) (h : WksAt w p l) (hM : BigP l) : Calls Try.prog 15 #[.slice p l.length c] w (RetE (.bool (bP (FarP l))) w) := by
  have m1 := hM.len
  go_enter Try.func15, Try.ntmps15
  by_cases fA : 40 < l.length
  · go_wp2
    go_ret
    exact RetE.tt (Ext.refl w) (Or.inl fA)
  go_wp2
  go_loop [3] (fun i => ∃ k : Nat, k ≤ l.length ∧ i = .int .i64 k ∧ (∀ j (h : j < l.length), j < k → l[j].recs.length ≤ 40)) (fun i => l.length - (intOf i).toNat)
  case atStart => exact ⟨0, by omega, rfl, fun j h hj => absurd hj (by omega)⟩
  case round =>
    obtain ⟨k, hk, rfl, hr⟩ := hrel
    have HR := Lib.hid hr
    clear hr
    by_cases hlt : k < l.length
    · obtain ⟨b, o, q', c', rfl, hc1, hc2, -⟩ := h k hlt
      have hmp := hM.recs _ (List.getElem_mem hlt)
      by_cases hp : 40 < l[k].recs.length
      · go_wp2
        go_ret
        exact RetE.tt (Ext.refl w) (Or.inr ⟨_, List.getElem_mem hlt, hp⟩)
      · go_wp2
        go_round
        case rel => exact ⟨k + 1, by omega, by go_num, fun j h hj => by
            by_cases e : j < k
            · exact HR.out j h e
            · obtain rfl : j = k := by omega
              omega⟩
        case measure => simp [intOf]; omega
    · go_wp2
      go_ret
      refine RetE.ff (Ext.refl w) ?_
      rintro (h | ⟨x, hx, h⟩)
      · exact fA h
      · obtain ⟨i, hi, rfl⟩ := List.getElem_of_mem hx
        have := HR.out i hi (by omega)
        omega

set_option maxHeartbeats 800000 in
theorem ready03 (v : Value) (X : Wr) (w : World) (hv : WrV w v X) (hM : BigW X) : Calls Try.prog 32 #[v] w (RetE (.bool (bP (ReadyW X))) w) := by
  have hF := fun w' (h : Ext w w') => Far03 v X w' (WrV.mono _ _ _ _ h hv) hM
  have hC := fun (hm : ModestW X) w' (h : Ext w w') => rCheck03 v X w' (WrV.mono _ _ _ _ h hv) hm
  obtain ⟨p, c, q, d, rfl, h1, h2⟩ := hv
  clear h1 h2
  have HF := Lib.hid hF
  have HC := Lib.hid hC
  clear hF hC
  go_enter Try.func32, Try.ntmps32
  go_upto_region 1 with (fail)
  have hn := heap_new w (.cells (wrCells X p c q d) 25)
  unfold wrCells at hn
  obtain ⟨W, hW⟩ : ∃ W, W = w.alloc (.cells #[.int .i64 X.weeks, .int .i64 X.price, .int .i64 X.age, .int .i64 X.step, .slice p X.rough.length c, .slice q X.recs.length d] 25) := ⟨_, rfl⟩
  have hE : Ext w W := by rw [hW]; exact Ext.alloc (Ext.refl w) _
  rw [← hW] at hn ⊢
  have q0 := ExtW.cell (v := .int .i64 X.weeks) (cell_of_heap hn 0)
  have q1 := ExtW.cell (v := .int .i64 X.price) (cell_of_heap hn 1)
  have q2 := ExtW.cell (v := .int .i64 X.age) (cell_of_heap hn 2)
  have q3 := ExtW.cell (v := .int .i64 X.step) (cell_of_heap hn 3)
  have q4 := ExtW.cell (v := .slice p X.rough.length c) (cell_of_heap hn 4)
  have q5 := ExtW.cell (v := .slice q X.recs.length d) (cell_of_heap hn 5)
  obtain ⟨x0, hx0⟩ := ExtW.of (Ext.refl W)
  clear hW hn
  conv => arg 5; rw [hx0]
  go_wp2_with fail
  refine (ExtW.call (HF.out _ (hE.trans x0.h))).mono ?_
  rintro e _ ⟨rfl, x1, rfl⟩
  by_cases hf : FarW X
  · rw [bP_t hf]
    have H := Lib.hid hf
    clear hf
    go_wp2
    go_ret
    exact RetE.ff (hE.trans x1.h) (fun h => ((readyW_iff X).1 h).1 H.out)
  · rw [bP_f hf]
    have HW := Lib.hid (fun h : WideW X => hf (Or.inl h))
    have H := Lib.hid hf
    clear hf
    by_cases hS : ValidW X
    · have hc := HC.out (modest_of_w HW.out) x1.w (hE.trans x1.h)
      rw [chkW_t hS] at hc
      have HC2 := Lib.hid (ExtW.call hc)
      have HS := Lib.hid hS
      clear hc hS
      go_wp2_with fail
      refine HC2.out.mono ?_
      rintro e _ ⟨rfl, x2, rfl⟩
      go_wp2
      go_ret
      exact RetE.tt (hE.trans x2.h) ((readyW_iff X).2 ⟨H.out, HS.out⟩)
    · have hc := HC.out (modest_of_w HW.out) x1.w (hE.trans x1.h)
      rw [chkW_f hS] at hc
      have HC2 := Lib.hid (ExtW.call hc)
      have HS := Lib.hid hS
      clear hc hS
      go_wp2_with fail
      refine HC2.out.mono ?_
      rintro e _ ⟨rfl, x2, rfl⟩
      go_wp2
      go_ret
      exact RetE.ff (hE.trans x2.h) (fun h => HS.out ((readyW_iff X).1 h).2)

set_option maxHeartbeats 1600000 in
theorem IsPlan03 (v : Value) (X : Wr) (pp : Option Addr) (l : List Wk) (pc : Nat) (w : World) (hv : WrV w v X) (hX : X.recs.length ≤ 100000) (hl : l.length ≤ 100000) (hr : ∀ x ∈ l, x.recs.length ≤ 100000) (h : WksAt w pp l) :
    Calls Try.prog 33 #[v, .slice pp l.length pc] w (RetE (.bool (bP (PlanOK X l))) w) := by
  obtain ⟨p, c, q, d, rfl, h1, h2⟩ := hv
  go_enter Try.func33, Try.ntmps33
  go_upto_region 1 with (fail)
  have hn := heap_new w (.cells (wrCells X p c q d) 25)
  unfold wrCells at hn
  obtain ⟨W, hW⟩ : ∃ W, W = w.alloc (.cells #[.int .i64 X.weeks, .int .i64 X.price, .int .i64 X.age, .int .i64 X.step, .slice p X.rough.length c, .slice q X.recs.length d] 25) := ⟨_, rfl⟩
  have hE : Ext w W := by rw [hW]; exact Ext.alloc (Ext.refl w) _
  rw [← hW] at hn ⊢
  have q0 := ExtW.cell (v := .int .i64 X.weeks) (cell_of_heap hn 0)
  have q5 := ExtW.cell (v := .slice q X.recs.length d) (cell_of_heap hn 5)
  obtain ⟨x0, hx0⟩ := ExtW.of (Ext.refl W)
  have k := h.ext hE
  clear hW hn h1 h2 h
  conv => arg 5; rw [hx0]
  clear hx0
  go_wp2
  go_loopw [5] (fun i wr => ∃ k : Nat, k ≤ l.length ∧ i = .int .i64 k ∧ (∀ j (h : j < l.length), j < k → WeekOK X.recs.length l[j]) ∧ ∃ x : ExtW W, wr = x.w) (fun i _ => l.length - (intOf i).toNat)
  case atStart => exact ⟨0, by omega, rfl, fun j h hj => absurd hj (by omega), x0, rfl⟩
  case round =>
    clear x0
    obtain ⟨n, hk, rfl, hrr, x, rfl⟩ := hrel
    have HR := Lib.hid hrr
    clear hrr
    by_cases hlt : n < l.length
    · obtain ⟨b, o, q', c', rfl, hc1, hc2, hi⟩ := k n hlt
      have e1 := ExtW.cell hc1
      have e2 := ExtW.cell hc2
      have hml := hr _ (List.getElem_mem hlt)
      have hRI := fun y : ExtW W => Rising01 q' l[n].recs c' 0 ((X.recs.length : Int) - 1) y.w (by omega) (hi.ext y.h)
      have hx1 : IntKind.i64.wrap ((X.recs.length : Int) - 1) = (X.recs.length : Int) - 1 := by rw [IntKind.wrap_i64]; omega
      clear hc1 hc2
      by_cases hw : 0 ≤ l[n].needle ∧ l[n].needle ≤ 1
      · have HW := Lib.hid hw
        have HWC := Lib.hid (rIn (W := W) hw)
        clear hw
        by_cases hri : Rises l[n].recs 0 ((X.recs.length : Int) - 1)
        · have HRC := Lib.hid (fun y : ExtW W => ExtW.call (RetQ.e (RetQ.bt hri (hRI y))))
          have HRI := Lib.hid hri
          clear hri hRI
          go_upto_region 4 with (fail)
          refine wp_region_extW (by kernel_rfl) (by kernel_rfl) ?_
          repeat (go_big_quiet_step ((first | (go_at_call 57; exact HWC.out _) | (go_at_call 72; exact HRC.out _))))
          refine wpQuiet_nil ?_
          rintro _ ⟨x2, rfl⟩
          go_wp2
          go_roundw
          case rel => exact ⟨n + 1, by omega, by go_num, fun j h hj => by
              by_cases e : j < n
              · exact HR.out j h e
              · obtain rfl : j = n := by omega
                exact ⟨HRI.out, HW.out⟩, x2, rfl⟩
          case measure => simp [intOf]; omega
        · have HRC := Lib.hid (fun y : ExtW W => ExtW.call (RetQ.e (RetQ.bf hri (hRI y))))
          have HRI := Lib.hid hri
          clear hri hRI
          go_upto_region 4 with (fail)
          refine wp_region_extW (by kernel_rfl) (by kernel_rfl) ?_
          repeat (go_big_quiet_step ((first | (go_at_call 57; exact HWC.out _) | (go_at_call 72; exact HRC.out _))))
          refine wpQuiet_nil ?_
          rintro _ ⟨x2, rfl⟩
          go_wp2
          go_ret
          exact RetE.ff (hE.trans x2.h) (fun h => HRI.out (h.2 _ (List.getElem_mem hlt)).1)
      · have HW := Lib.hid hw
        have HWC := Lib.hid (rOut (W := W) hw)
        clear hw hRI
        go_upto_region 4 with (fail)
        refine wp_region_extW (by kernel_rfl) (by kernel_rfl) ?_
        repeat (go_big_quiet_step ((go_at_call 57; exact HWC.out _)))
        refine wpQuiet_nil ?_
        rintro _ ⟨x2, rfl⟩
        go_wp2
        go_ret
        exact RetE.ff (hE.trans x2.h) (fun h => HW.out (h.2 _ (List.getElem_mem hlt)).2)
    · have HALL : Hid (∀ x ∈ l, WeekOK X.recs.length x) := Lib.hid fun y hy => by
        obtain ⟨i, hi, rfl⟩ := List.getElem_of_mem hy
        exact HR.out i hi (by omega)
      clear HR
      go_wp2
      go_ret
      refine RetE.of (hE.trans x.h) ?_
      constructor
      · intro h
        exact ⟨by simpa using h, HALL.out⟩
      · intro h
        simpa using h.1
end Go.Proofs.Ytkcilgjkdiopnaa
