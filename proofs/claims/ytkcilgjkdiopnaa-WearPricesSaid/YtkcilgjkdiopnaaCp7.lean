/- The walks of isGood and with. -/
import Derived.Test.YtkcilgjkdiopnaaCp6
import Derived.Test.YtkcilgjkdiopnaaE03d
namespace Go.Proofs.Ytkcilgjkdiopnaa
open Go.RowKit

theorem firstBad_lt (X : Wr) (l : List Wk) : firstBad X l < l.length ∧ -1 ≤ firstBad X l := by
  unfold firstBad
  cases h : (List.range l.length).find? (badAt X l) with
  | none => simp only; omega
  | some k =>
    have := List.mem_of_find?_eq_some h
    have := List.mem_range.1 this
    simp only
    omega

set_option maxHeartbeats 1600000 in
theorem isGood03 (v : Value) (X : Wr) (pp : Option Addr) (l : List Wk) (pc : Nat) (w : World) (hv : WrV w v X) (hX : ValidW X) (hP : PlanOK X l) (h : WksAt w pp l) :
    Calls Try.prog 35 #[v, .slice pp l.length pc] w (RetE (.tuple #[.bool (decide (firstBad X l < 0)), .bool true]) w) := by
  have hM := modest_valid hX
  have hlw : (l.length : Int) ≤ 6 := by have := hP.1; have := hX.weeks; omega
  have hrl : ∀ x ∈ l, x.recs.length ≤ 1000 := fun x hx => by
    have h1 := (hP.2 x hx).1
    have h4 := hX.recs
    apply Classical.byContradiction
    intro hn
    have h5 : ∀ i (hi : i < x.recs.length), (i : Int) ≤ x.recs[i] := by
      intro i
      induction i with
      | zero => intro hi; exact (h1.1 0 hi).1
      | succ j ih => intro hi; have := ih (by omega); have := h1.2 j hi; omega
    have := h5 5 (by omega)
    have := (h1.1 5 (by omega)).2
    omega
  have hC := fun w' (hw : Ext w w') => Copy03 v X w' (WrV.mono _ _ _ _ hw hv) (by have := hX.rough; omega) (by have := hX.recs; omega) (fun r hr => by obtain ⟨i, hi, rfl⟩ := List.getElem_of_mem hr; have := (hX.rc i hi).len; have := hX.weeks; omega)
  have hD := fun w' (hw : Ext w w') => CopyPlan03 pp l pc w' (by omega) hrl (h.ext hw)
  have hG := fun u q c w' (hu : WrV w' u X) (hq : WksAt w' q l) => Good03 u X q l c w' hu hM (by omega) (fun x hx => by have := hrl x hx; omega) hq
  rw [goodV_ok hX hP] at hG
  obtain ⟨p, c, q, d, rfl, h1, h2⟩ := hv
  have HC := Lib.hid hC
  have HD := Lib.hid hD
  have HG := Lib.hid hG
  obtain ⟨hb1, hb2⟩ := firstBad_lt X l
  obtain ⟨fb, hfb⟩ : ∃ fb, fb = firstBad X l := ⟨_, rfl⟩
  rw [← hfb] at hb1 hb2 HG ⊢
  clear hC hD hG h h1 h2 hM hX hP hrl hfb
  go_enter Try.func35, Try.ntmps35
  go_upto_region 1 with (fail)
  have hn := heap_new w (.cells (wrCells X p c q d) 25)
  unfold wrCells at hn
  obtain ⟨W, hW⟩ : ∃ W, W = w.alloc (.cells #[.int .i64 X.weeks, .int .i64 X.price, .int .i64 X.age, .int .i64 X.step, .slice p X.rough.length c, .slice q X.recs.length d] 25) := ⟨_, rfl⟩
  have hE : Ext w W := by rw [hW]; exact Ext.alloc (Ext.refl w) _
  rw [← hW] at hn ⊢
  have q0 := cell_of_heap hn 0
  have q1 := cell_of_heap hn 1
  have q2 := cell_of_heap hn 2
  have q3 := cell_of_heap hn 3
  have q4 := cell_of_heap hn 4
  have q5 := cell_of_heap hn 5
  simp at q0 q1 q2 q3 q4 q5
  have HE := Lib.hid hE
  clear hW hn hE
  go_upto_region 2 with (first
    | (go_at_call 17; refine (HC.out W HE.out).mono ?_; rintro e W1 ⟨u, rfl, hE1, hb⟩; have hu := hb.wr; have HU := Lib.hid hu; have HE1 := Lib.hid (HE.out.trans hE1); clear hu hb hE1)
    | (go_at_call 18; refine (HD.out W1 HE1.out).mono ?_; rintro e W2 ⟨u2, rfl, hE2, hp⟩; obtain ⟨q', c', rfl, hk⟩ := hp.wks; have HG2 := Lib.hid (HG.out u q' c' W2 (WrV.mono _ _ _ _ hE2 HU.out) hk); have HE2 := Lib.hid (HE1.out.trans hE2); clear hp hk hE2)
    | (go_at_call 23; refine HG2.out.mono ?_; rintro e W3 ⟨rfl, hE3⟩))
  by_cases h0 : fb < 0
  · have hd : decide (fb < 0) = true := by simpa using h0
    rw [hd]
    have hl2 : decide (fb < (l.length : Int)) = true := by simpa using hb1
    have HB1 := Lib.hid hb1
    clear hb1 hb2
    go_wp2
    go_ret2
    exact RetE.fin (HE2.out.trans hE3) (by have := HB1.out; simp_all)
  · have hd : decide (fb < 0) = false := by simpa using h0
    rw [hd]
    have hl2 : decide (fb < (l.length : Int)) = true := by simpa using hb1
    have HB1 := Lib.hid hb1
    clear hb1 hb2
    go_wp2
    go_ret2
    exact RetE.fin (HE2.out.trans hE3) (by have := HB1.out; simp_all)
end Go.Proofs.Ytkcilgjkdiopnaa
