/- The walk of First: a box of the first weeks alone. -/
import Derived.Test.YtkcilgjkdiopnaaCp6
import Derived.StillTailTactics
namespace Go.Proofs.Ytkcilgjkdiopnaa
open Go.RowKit

def cutR (k : Nat) (r : Rec) : Rec := { r with plays := r.plays.take k }
def firstX (X : Wr) (k : Nat) : Wr := { X with weeks := k, recs := X.recs.map (cutR k) }

/-- records whose plays are cut in the first j of them -/
def CutR (j k : Nat) (ys : List Value) (l : List Rec) (g c : Nat → Nat) : Prop := ∀ i (h : i < l.length),
  ys[i * 4]? = some (.int .i64 l[i].worn) ∧ ys[i * 4 + 1]? = some (.int .i64 l[i].limit) ∧ ys[i * 4 + 2]? = some (.int .i64 l[i].price) ∧
  ys[i * 4 + 3]? = some (.slice (some ⟨g i, 0, none⟩) (if i < j then k else l[i].plays.length) (c i))
theorem CutR.step {j k : Nat} {ys : List Value} {l : List Rec} {g c : Nat → Nat} (h : CutR j k ys l g c) (hj : j < l.length) (hl : ys.length = l.length * 4) :
    CutR (j + 1) k (ys.set (j * 4 + 3) (.slice (some ⟨g j, 0, none⟩) k (c j))) l g c := by
  intro i hi
  obtain ⟨h1, h2, h3, h4⟩ := h i hi
  refine ⟨by rw [List.getElem?_set_ne (by omega)]; exact h1, by rw [List.getElem?_set_ne (by omega)]; exact h2, by rw [List.getElem?_set_ne (by omega)]; exact h3, ?_⟩
  by_cases e : i = j
  · subst e
    rw [List.getElem?_set_self (by omega), if_pos (by omega)]
  · rw [List.getElem?_set_ne (by omega), h4]
    by_cases e2 : i < j
    · rw [if_pos e2, if_pos (by omega)]
    · rw [if_neg e2, if_neg (by omega)]
theorem IntsAt.take {w : World} {p : Option Addr} {l : List Int} (h : IntsAt w p l) (k : Nat) : IntsAt w p (l.take k) := by
  intro i hi
  have : i < l.length := by rw [List.length_take] at hi; omega
  obtain ⟨b, o, v, hp, hc, hv⟩ := h i this
  exact ⟨b, o, v, hp, hc, by rw [List.getElem_take]; exact hv⟩
theorem own_cap {w : World} {B : Nat} {e : TypeId} {size g n c : Nat} {xs : List Value} (h : w.ownsRow B e size (.slice (some ⟨g, 0, none⟩) n c) n xs) : n ≤ c := by
  rcases h.2 with ⟨hv, h0⟩ | ⟨g', cap, cur, hv, hB, hg, hc, hm, hs, hx⟩
  · cases hv
  · cases hv; exact hc

set_option maxRecDepth 20000 in
set_option maxHeartbeats 6400000 in
theorem First03 (v : Value) (X : Wr) (k : Nat) (w : World) (hv : WrV w v X) (hX : ValidW X) (hk : (k : Int) ≤ X.weeks) :
    Calls Try.prog 38 #[v, .int .i64 k] w (fun e w' => ∃ v, e = .returned v ∧ Ext w w' ∧ WrV w' v (firstX X k)) := by
  have hm1 : X.rough.length ≤ 1000 := by have := hX.rough; omega
  have hm2 : X.recs.length ≤ 1000 := by have := hX.recs; omega
  have hkp : ∀ i (h : i < X.recs.length), k ≤ X.recs[i].plays.length := fun i h => by have := (hX.rc i h).len; omega
  have hm3 : ∀ r ∈ X.recs, r.plays.length ≤ 1000 := fun r hr => by
    obtain ⟨i, hi, rfl⟩ := List.mem_iff_getElem.1 hr
    have := (hX.rc i hi).len; have := hX.weeks; omega
  have HV := Lib.hid hv
  have hk6 : k ≤ 6 := by have := hX.weeks; omega
  have HKP := Lib.hid hkp
  have HM3 := Lib.hid hm3
  obtain ⟨p, c, q, d, rfl, -, -⟩ := hv
  clear hX hk hkp hm3
  go_enter Try.func38, Try.ntmps38
  go_upto_region 1 with (fail)
  obtain ⟨W, hW⟩ : ∃ W, W = (w.alloc (.cells (wrCells X p c q d) 25)).alloc (.cells #[.int .i64 0, .int .i64 0, .int .i64 0, .int .i64 0, .slice none 0 0, .slice none 0 0] 25) := ⟨_, rfl⟩
  have hb0 : W.heap[w.heap.size]? = some (.cells (wrCells X p c q d) 25) := by rw [hW]; exact heap_new1 _ _ _
  have hb1 : W.heap[w.heap.size + 1]? = some (.cells #[.int .i64 0, .int .i64 0, .int .i64 0, .int .i64 0, .slice none 0 0, .slice none 0 0] 25) := by rw [hW]; exact heap_new2 _ _ _
  have hE : Ext w W := by rw [hW]; exact Ext.alloc (Ext.alloc (Ext.refl w) _) _
  have hWs : W.heap.size = w.heap.size + 2 := by rw [hW]; simp only [size_alloc]
  unfold wrCells at hW hb0
  rw [← hW]
  have q0 := ExtW.cell (v := .int .i64 X.weeks) (cell_of_heap hb0 0)
  have q1 := ExtW.cell (v := .int .i64 X.price) (cell_of_heap hb0 1)
  have q2 := ExtW.cell (v := .int .i64 X.age) (cell_of_heap hb0 2)
  have q3 := ExtW.cell (v := .int .i64 X.step) (cell_of_heap hb0 3)
  have q4 := ExtW.cell (v := .slice p X.rough.length c) (cell_of_heap hb0 4)
  have q5 := ExtW.cell (v := .slice q X.recs.length d) (cell_of_heap hb0 5)
  have HC := Lib.hid (fun x : ExtW W => Copy03 (.agg #[.int .i64 X.weeks, .int .i64 X.price, .int .i64 X.age, .int .i64 X.step, .slice p X.rough.length c, .slice q X.recs.length d]) X x.w (WrV.mono _ _ _ _ (hE.trans x.h) HV.out) hm1 hm2 HM3.out)
  have HB1 := Lib.hid hb1
  have HE := Lib.hid hE
  have HWS := Lib.hid hWs
  obtain ⟨x0, hx0⟩ := ExtW.of (Ext.refl W)
  clear hW hb0 hb1 hE hWs
  conv => arg 5; rw [hx0]
  clear hx0
  go_upto_region 2 with (go_at_call 17; refine (HC.out _).mono ?_; rintro e W1 ⟨u, rfl, hE1, gp, cp, gq, d1, xs, g, cc, rfl, ho1, ho2, hrc, hpq, hap⟩)
  obtain ⟨b, hbd⟩ : ∃ b, b = W1.heap.size := ⟨_, rfl⟩
  obtain ⟨W2, hW2⟩ : ∃ W2, W2 = W1.alloc (.cells #[.int .i64 X.weeks, .int .i64 X.price, .int .i64 X.age, .int .i64 X.step, .slice (some ⟨gp, 0, none⟩) X.rough.length cp, .slice (some ⟨gq, 0, none⟩) X.recs.length d1] 25) := ⟨_, rfl⟩
  have hb2 : W2.heap[b]? = some (.cells #[.int .i64 X.weeks, .int .i64 X.price, .int .i64 X.age, .int .i64 X.step, .slice (some ⟨gp, 0, none⟩) X.rough.length cp, .slice (some ⟨gq, 0, none⟩) X.recs.length d1] 25) := by rw [hW2, hbd]; exact heap_new _ _
  have hE2 : Ext W1 W2 := by rw [hW2]; exact Ext.alloc (Ext.refl W1) _
  have hE02 : Ext W W2 := x0.h.trans (hE1.trans hE2)
  have hbW : W.heap.size ≤ b := by rw [hbd]; exact (x0.h.trans hE1).size
  have ho1' := ownsRow_ext ho1 hE2
  have ho2' := ownsRow_ext ho2 hE2
  have hrc' := hrc.fr (hE2.fr (fun _ => False)) (fun _ _ h => h)
  have hgpb : gp < b := by rw [hbd]; exact (ho1.lt gp rfl).2
  have hgqb : gq < b := by rw [hbd]; exact (ho2.lt gq rfl).2
  have hgb : ∀ i, i < X.recs.length → g i < b := fun i hi => by rw [hbd]; exact ((hrc.row i hi hi).2.lt (g i) rfl).2
  have hM2 : x0.w.heap.size + 3 ≤ b := by have := (ho1.lt gp rfl).1; omega
  have hxs := ho2.1
  have hb1' := (Below.block hE02 _ (Array.getElem?_eq_some_iff.1 HB1.out).1).trans HB1.out
  have hEw := HE.out.trans hE02
  have hx0s : W.heap.size ≤ x0.w.heap.size := x0.h.size
  rw [← hbd, ← hW2]
  have w0 : W2.cell? ⟨b, 0, none⟩ = some (.int .i64 X.weeks) := (cell_of_heap hb2 0).trans rfl
  have w1 : W2.frozen? ⟨b, 0, none⟩ = false := cell_frozen hb2 0
  have HB2 := Lib.hid hb2
  have HO1 := Lib.hid ho1'
  have HO2 := Lib.hid ho2'
  have HRC := Lib.hid hrc'
  have HPQ := Lib.hid hpq
  have HAP := Lib.hid hap
  have HGB := Lib.hid hgb
  have HXS := Lib.hid hxs
  have HB1' := Lib.hid hb1'
  have HEW := Lib.hid hEw
  clear hW2 hb2 hE1 hE2 hE02 ho1 ho2 hrc hpq hap hgb hxs hb1' hEw ho1' ho2' hrc' q0 q1 q2 q3 q4 q5 HC HB1 HE hbd
  go_upto_region 3 with (fail)
  obtain ⟨M, hMd⟩ : ∃ M, M = x0.w.heap.size + 3 := ⟨_, rfl⟩
  rw [← hMd] at HO1 HO2 HRC hM2
  have hMw : w.heap.size + 5 ≤ M := by have := HWS.out; omega
  obtain ⟨W5, hW5⟩ : ∃ W5, W5 = W2.setCell ⟨b, 0, none⟩ (.int .i64 k) := ⟨_, rfl⟩
  have hF5 : Fr (fun i => i = b) W2 W5 := by rw [hW5]; exact (Fr.refl _ _).set rfl
  have hb5 : W5.heap[b]? = some (.cells #[.int .i64 k, .int .i64 X.price, .int .i64 X.age, .int .i64 X.step, .slice (some ⟨gp, 0, none⟩) X.rough.length cp, .slice (some ⟨gq, 0, none⟩) X.recs.length d1] 25) := by rw [hW5]; exact heap_set HB2.out rfl
  have hbw : w.heap.size + 1 < b := by omega
  have hr5 := (ownsRow_fr HO1.out hF5 (fun e he => by cases he; show ¬gp = b; omega))
  have ho5 := (ownsRow_fr HO2.out hF5 (fun e he => by cases he; show ¬gq = b; omega))
  have hrc5 : ∀ i (h : i < X.recs.length), W5.ownsRow M 3 1 (.slice (some ⟨g i, 0, none⟩) X.recs[i].plays.length (cc i)) X.recs[i].plays.length (intVs X.recs[i].plays) := fun i hi =>
    ownsRow_fr (HRC.out.row i hi hi).2 hF5 (fun e he => by cases he; show ¬g i = b; have := HGB.out i hi; omega)
  have hcut : CutR 0 k xs X.recs g cc := fun i hi => by
    obtain ⟨f1, f2, f3, -⟩ := HRC.out.fix i hi
    exact ⟨f1, f2, f3, by rw [if_neg (by omega)]; exact (HRC.out.row i hi hi).1⟩
  have hb15 := (hF5.block (w.heap.size + 1) (by have := (Array.getElem?_eq_some_iff.1 HB1'.out).1; omega) (show ¬(w.heap.size + 1 = b) by omega)).trans HB1'.out
  have hE5 : Ext w W5 := Fr.ext HEW.out hF5 (fun i hi => by have e : i = b := hi; omega)
  have hs5 : b < W5.heap.size := (Array.getElem?_eq_some_iff.1 hb5).1
  rw [← hW5]
  have HB5 := Lib.hid hb5
  have HR5 := Lib.hid hr5
  have HO5 := Lib.hid ho5
  have HRC5 := Lib.hid hrc5
  have HCUT := Lib.hid hcut
  have HZ5 := Lib.hid hb15
  have HE5 := Lib.hid hE5
  have hgqM : M ≤ gq := (ho5.lt gq rfl).1
  clear hW5 hF5 hb5 hr5 ho5 hrc5 hcut hb15 hE5 w0 w1 HB2 HO1 HO2 HRC HB1' HEW hMd
  go_wp2
  go_loopw [6] (fun i wr => ∃ (j : Nat) (ys : List Value), j ≤ X.recs.length ∧ i = .int .i64 j ∧ CutR j k ys X.recs g cc ∧ wr.ownsRow M 54 4 (.slice (some ⟨gq, 0, none⟩) X.recs.length d1) X.recs.length ys ∧ Fr (fun i => i = gq) W5 wr) (fun i _ => X.recs.length - (intOf i).toNat)
  case atStart => exact ⟨0, xs, by omega, rfl, HCUT.out, HO5.out, Fr.refl _ _⟩
  case round =>
    obtain ⟨j, ys, hj, rfl, hcr, hor, hF⟩ := hrel
    have hbr : wr.heap[b]? = _ := (hF.block b hs5 (by omega)).trans HB5.out
    have hzr : wr.heap[w.heap.size + 1]? = _ := (hF.block _ (by omega) (by omega)).trans HZ5.out
    have d5 : wr.cell? ⟨b, 5, none⟩ = some (.slice (some ⟨gq, 0, none⟩) X.recs.length d1) := (cell_of_heap hbr 5).trans rfl
    have HCR := Lib.hid hcr
    have HOR := Lib.hid hor
    have HF := Lib.hid hF
    have HBR := Lib.hid hbr
    have HZR := Lib.hid hzr
    clear hcr hor hF hbr hzr
    by_cases hlt : j < X.recs.length
    · obtain ⟨-, -, -, h4⟩ := HCR.out j hlt
      obtain ⟨b9, c9, he9, hc9⟩ := ownsRow_cell HOR.out (j * 4 + 3) (by omega)
      cases he9
      rw [h4, if_neg (by omega)] at hc9
      have f9 := ownsRow_frozen (i := j * 4 + 3) HOR.out
      have hcap := own_cap (HRC5.out j hlt)
      have hkc : k ≤ cc j := by have := HKP.out j hlt; omega
      have hkl : k ≤ X.recs[j].plays.length := HKP.out j hlt
      have hlt' : (j : Int) < (X.recs.length : Int) := by omega
      clear h4
      go_upto_region 6 with (fail)
      go_still_tail 13, (by kernel_rfl)
      change wpList _ _ _ _ _ wr.drew
      obtain ⟨w2, hw2⟩ : ∃ w2, w2 = wr.drew := ⟨_, rfl⟩
      rw [← hw2]
      have hEd : Ext wr w2 := by rw [hw2]; exact (Ext.refl wr).drew
      have s5 : w2.cell? ⟨b, 5, none⟩ = some (.slice (some ⟨gq, 0, none⟩) X.recs.length d1) := hEd.cell d5
      have s9 : w2.cell? ⟨gq, j * 4 + 3, none⟩ = _ := hEd.cell hc9
      have t9 : w2.frozen? ⟨gq, j * 4 + 3, none⟩ = false := by rw [hw2]; exact f9
      have HED := Lib.hid hEd
      clear hw2 hEd d5 hc9 f9
      go_upto_region 5 with (fail)
      have hor2 := ownsRow_setV (i := j * 4 + 3) (u := .slice (some ⟨g j, 0, none⟩) k (cc j)) (ownsRow_ext HOR.out HED.out)
      have hcr2 := HCR.out.step hlt HOR.out.1
      have hF2 : Fr (fun i => i = gq) W5 (w2.setCell ⟨gq, j * 4 + 3, none⟩ (.slice (some ⟨g j, 0, none⟩) k (cc j))) := (HF.out.trans (HED.out.fr _)).set rfl
      have HOR2 := Lib.hid hor2
      have HCR2 := Lib.hid hcr2
      have HF2 := Lib.hid hF2
      clear hor2 hcr2 hF2 s5 s9 t9 HCR HOR HF
      go_wp2
      go_roundw
      case rel => exact ⟨j + 1, _, by omega, by go_num, HCR2.out, HOR2.out, HF2.out⟩
      case measure => simp [intOf]; omega
    · obtain rfl : j = X.recs.length := by omega
      have d0 : wr.cell? ⟨b, 0, none⟩ = some (.int .i64 k) := (cell_of_heap HBR.out 0).trans rfl
      have d1' : wr.cell? ⟨b, 1, none⟩ = some (.int .i64 X.price) := (cell_of_heap HBR.out 1).trans rfl
      have d2 : wr.cell? ⟨b, 2, none⟩ = some (.int .i64 X.age) := (cell_of_heap HBR.out 2).trans rfl
      have d3 : wr.cell? ⟨b, 3, none⟩ = some (.int .i64 X.step) := (cell_of_heap HBR.out 3).trans rfl
      have d4 : wr.cell? ⟨b, 4, none⟩ = some (.slice (some ⟨gp, 0, none⟩) X.rough.length cp) := (cell_of_heap HBR.out 4).trans rfl
      have z0 : wr.cell? ⟨w.heap.size + 1, 0, none⟩ = some (.int .i64 0) := (cell_of_heap HZR.out 0).trans rfl
      have z1 : wr.cell? ⟨w.heap.size + 1, 1, none⟩ = some (.int .i64 0) := (cell_of_heap HZR.out 1).trans rfl
      have z2 : wr.cell? ⟨w.heap.size + 1, 2, none⟩ = some (.int .i64 0) := (cell_of_heap HZR.out 2).trans rfl
      have z3 : wr.cell? ⟨w.heap.size + 1, 3, none⟩ = some (.int .i64 0) := (cell_of_heap HZR.out 3).trans rfl
      have z4 : wr.cell? ⟨w.heap.size + 1, 4, none⟩ = some (.slice none 0 0) := (cell_of_heap HZR.out 4).trans rfl
      have z5 : wr.cell? ⟨w.heap.size + 1, 5, none⟩ = some (.slice none 0 0) := (cell_of_heap HZR.out 5).trans rfl
      have fz := fun i => cell_frozen HZR.out i
      go_wp2
      generalize hW9 : World.setCell _ _ _ = W9
      have hF9 : Fr (fun k => k = w.heap.size + 1) wr W9 := by rw [← hW9]; exact ((((((Fr.refl (fun k => k = w.heap.size + 1) wr).set rfl).set rfl).set rfl).set rfl).set rfl).set rfl
      have h9 : W9.heap[w.heap.size + 1]? = some (.cells #[.int .i64 k, .int .i64 X.price, .int .i64 X.age, .int .i64 X.step, .slice (some ⟨gp, 0, none⟩) X.rough.length cp, .slice (some ⟨gq, 0, none⟩) X.recs.length d1] 25 (0, 0)) := by rw [← hW9]; exact heap_set6 HZR.out
      have hEw : Ext w wr := Fr.ext HE5.out HF.out (fun i hi => by have e : i = gq := hi; omega)
      have hEw9 : Ext w W9 := Fr.ext hEw hF9 (fun i hi => by have e : i = w.heap.size + 1 := hi; omega)
      have hr9 := ownsRow_fr (ownsRow_fr HR5.out HF.out (fun e he => by cases he; exact HPQ.out)) hF9 (fun e he => by cases he; show ¬gp = w.heap.size + 1; have := (HR5.out.lt gp rfl).1; omega)
      have ho9 := ownsRow_fr HOR.out hF9 (fun e he => by cases he; show ¬gq = w.heap.size + 1; omega)
      refine bodyPost_ret (v := .agg #[.int .i64 k, .int .i64 X.price, .int .i64 X.age, .int .i64 X.step, .slice (some ⟨gp, 0, none⟩) X.rough.length cp, .slice (some ⟨gq, 0, none⟩) X.recs.length d1]) ?_ rfl ⟨_, rfl, hEw9, some ⟨gp, 0, none⟩, cp, some ⟨gq, 0, none⟩, d1, ?_, row_ints hr9, fun i hi => ?_⟩
      · have a0 := cell_of_heap h9 0
        have a1 := cell_of_heap h9 1
        have a2 := cell_of_heap h9 2
        have a3 := cell_of_heap h9 3
        have a4 := cell_of_heap h9 4
        have a5 := cell_of_heap h9 5
        simp at a0 a1 a2 a3 a4 a5
        simp [results, Try.results38, go_sem, a0, a1, a2, a3, a4, a5]
      · simp [firstX]
      · have hi' : i < X.recs.length := by simpa [firstX] using hi
        obtain ⟨f1, f2, f3, f4⟩ := HCR.out i hi'
        rw [if_pos hi'] at f4
        have hrow := ownsRow_fr (ownsRow_fr (HRC5.out i hi') HF.out (fun e he => by cases he; exact (HAP.out i hi').2)) hF9 (fun e he => by cases he; show ¬g i = w.heap.size + 1; have := ((HRC5.out i hi').lt (g i) rfl).1; omega)
        have at4 : ∀ r, r < 4 → W9.cell? ⟨gq, i * 4 + r, none⟩ = ys[i * 4 + r]? := fun r hr => by
          obtain ⟨b', c', he, hc⟩ := ownsRow_cell ho9 (i * 4 + r) (by omega)
          cases he
          exact hc
        have e : (firstX X k).recs[i] = cutR k X.recs[i] := by simp [firstX]
        rw [e]
        have hlen : (X.recs[i].plays.take k).length = k := by rw [List.length_take]; have := HKP.out i hi'; omega
        refine ⟨gq, 0, some ⟨g i, 0, none⟩, cc i, rfl, ?_, ?_, ?_, ?_, (row_ints hrow).take k⟩
        · rw [Nat.zero_add]; exact (at4 0 (by omega)).trans f1
        · rw [Nat.zero_add]; exact (at4 1 (by omega)).trans f2
        · rw [Nat.zero_add]; exact (at4 2 (by omega)).trans f3
        · rw [Nat.zero_add]; exact (at4 3 (by omega)).trans (f4.trans (by simp only [cutR, hlen]))
end Go.Proofs.Ytkcilgjkdiopnaa
