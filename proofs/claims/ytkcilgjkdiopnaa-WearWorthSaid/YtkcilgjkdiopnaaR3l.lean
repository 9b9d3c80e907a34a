/- The walks of the reference's Needles and Records. -/
import Derived.Test.YtkcilgjkdiopnaaR3k
namespace Go.Proofs.Ytkcilgjkdiopnaa
open Go.RowKit

def rcAt (l : List RC) (i : Nat) : RC := l.getD i ⟨0, 0, 0⟩
theorem rcAt_eq {l : List RC} {i : Nat} (h : i < l.length) : rcAt l i = l[i] := by simp [rcAt, h]
def lowR (f : RC → Int) (l : List RC) : Nat → Int
  | 0 => f (rcAt l 0)
  | k + 1 => min (lowR f l k) (f (rcAt l k))
theorem lowR_bd {f : RC → Int} {l : List RC} {a b : Int} (h0 : l ≠ []) (h : ∀ i (h : i < l.length), a ≤ f l[i] ∧ f l[i] ≤ b) : ∀ k, k ≤ l.length → a ≤ lowR f l k ∧ lowR f l k ≤ b
  | 0, _ => by
    have hl := List.length_pos_iff.2 h0
    simp only [lowR]
    rw [rcAt_eq hl]
    exact h 0 hl
  | k + 1, hk => by
    have h1 := lowR_bd h0 h k (by omega)
    have h2 := h k (by omega)
    simp only [lowR]
    rw [rcAt_eq (by omega : k < l.length)]
    omega
theorem lowR_le {f : RC → Int} {l : List RC} : ∀ k, k ≤ l.length → ∀ i (h : i < l.length), i < k → lowR f l k ≤ f l[i]
  | 0, _, i, _, hi => by omega
  | k + 1, hk, i, h, hi => by
    simp only [lowR]
    by_cases e : i = k
    · subst e; rw [rcAt_eq h]; omega
    · have := lowR_le (f := f) k (by omega) i h (by omega)
      omega
theorem lowR_mem {f : RC → Int} {l : List RC} (h0 : l ≠ []) : ∀ k, k ≤ l.length → ∃ c ∈ l, f c = lowR f l k
  | 0, _ => by
    have hl := List.length_pos_iff.2 h0
    exact ⟨l[0], List.getElem_mem hl, by simp only [lowR]; rw [rcAt_eq hl]⟩
  | k + 1, hk => by
    obtain ⟨c, hc, e⟩ := lowR_mem (f := f) h0 k (by omega)
    simp only [lowR]
    by_cases hle : lowR f l k ≤ f (rcAt l k)
    · exact ⟨c, hc, by rw [e]; omega⟩
    · exact ⟨l[k], List.getElem_mem (by omega), by rw [rcAt_eq (by omega : k < l.length)] at hle ⊢; omega⟩
open Classical in
noncomputable def refV (X : Wr) (f : RC → Int) : Value := if ValidW X then (if refL X = [] then .tuple #[.int .i64 0, .int .i64 3] else .tuple #[.int .i64 (lowR f (refL X) (refL X).length), .int .i64 0]) else .tuple #[.int .i64 0, .int .i64 30]
theorem refV_bad {X : Wr} {f : RC → Int} (h : ¬ValidW X) : refV X f = .tuple #[.int .i64 0, .int .i64 30] := by unfold refV; rw [if_neg h]
theorem refV_nil {X : Wr} {f : RC → Int} (h : ValidW X) (h2 : refL X = []) : refV X f = .tuple #[.int .i64 0, .int .i64 3] := by unfold refV; rw [if_pos h, if_pos h2]
theorem refV_some {X : Wr} {f : RC → Int} (h : ValidW X) (h2 : refL X ≠ []) : refV X f = .tuple #[.int .i64 (lowR f (refL X) (refL X).length), .int .i64 0] := by unfold refV; rw [if_pos h, if_neg h2]

set_option maxRecDepth 20000 in
set_option maxHeartbeats 16000000 in
theorem NeedlesR03 (v : Value) (X : Wr) (w : World) (hv : WrV w v X) (hM : ModestW X) :
    Calls Try.prog 45 #[v] w (RetE (refV X (fun c => c.needles)) w) := by
  have HM := Lib.hid hM
  have HV := Lib.hid hv
  obtain ⟨p, cp, q, d, rfl, hR, hG⟩ := hv
  clear hM hR hG
  go_enter Try.func45, Try.ntmps45
  go_upto_region 1 with (fail)
  generalize hW : World.alloc _ _ = W
  have hb0 : W.heap[w.heap.size]? = some (.cells #[.int .i64 X.weeks, .int .i64 X.price, .int .i64 X.age, .int .i64 X.step, .slice p X.rough.length cp, .slice q X.recs.length d] 25) := by rw [← hW]; exact heap_new _ _
  have hE : Ext w W := by rw [← hW]; exact Ext.alloc (Ext.refl w) _
  have d0 : W.cell? ⟨w.heap.size, 0, none⟩ = some (.int .i64 X.weeks) := (cell_of_heap hb0 0).trans rfl
  have d1 : W.cell? ⟨w.heap.size, 1, none⟩ = some (.int .i64 X.price) := (cell_of_heap hb0 1).trans rfl
  have d2 : W.cell? ⟨w.heap.size, 2, none⟩ = some (.int .i64 X.age) := (cell_of_heap hb0 2).trans rfl
  have d3 : W.cell? ⟨w.heap.size, 3, none⟩ = some (.int .i64 X.step) := (cell_of_heap hb0 3).trans rfl
  have d4 : W.cell? ⟨w.heap.size, 4, none⟩ = some (.slice p X.rough.length cp) := (cell_of_heap hb0 4).trans rfl
  have d5 : W.cell? ⟨w.heap.size, 5, none⟩ = some (.slice q X.recs.length d) := (cell_of_heap hb0 5).trans rfl
  have HK := Lib.hid (knownR03 _ X W (WrV.mono _ _ _ _ hE HV.out) HM.out)
  have HE := Lib.hid hE
  clear hW hb0 hE
  go_upto_region 2 with (go_at_call 68; refine HK.out.mono ?_; rintro e W1 ⟨hE1, ⟨hX, rfl⟩ | ⟨hX, h0, rfl⟩ | ⟨hX, h0, p1, c1, rfl, hr1⟩⟩)
  · have HE1 := Lib.hid hE1
    have HX := Lib.hid hX
    clear hE1 hX
    go_wp2
    refine bodyPost_ret (v := .tuple #[.int .i64 0, .int .i64 30]) (by simp [results, Try.results45, go_sem]) rfl ⟨by rw [refV_bad HX.out], HE.out.trans HE1.out⟩
  · have HE1 := Lib.hid hE1
    have HX := Lib.hid hX
    have H0 := Lib.hid h0
    clear hE1 hX h0
    go_wp2
    refine bodyPost_ret (v := .tuple #[.int .i64 0, .int .i64 3]) (by simp [results, Try.results45, go_sem]) rfl ⟨by rw [refV_nil HX.out H0.out], HE.out.trans HE1.out⟩
  · have hpos := List.length_pos_iff.2 h0
    obtain ⟨hl64, hbd⟩ := refL_bd hX
    obtain ⟨b, o, rfl, ra, rb, rc⟩ := hr1 0 hpos
    have hmb := fun k hk => lowR_bd (f := fun c => c.needles) h0 (fun i hi => (hbd i hi).1) k hk
    have hd1 := hE1.cell d1
    have z1 := ExtW.cell hd1
    have r0 := fun i (hi : i < (refL X).length) => (show ∀ x : ExtW W1, x.w.cell? ⟨b, o + i * 3, none⟩ = some (.int .i64 (rcAt (refL X) i).needles) from by
      obtain ⟨b', o', he, ra', rb', rc'⟩ := hr1 i hi
      cases he
      rw [rcAt_eq hi]
      exact ExtW.cell ra')
    have z0 := r0 0 hpos
    rw [Nat.zero_mul, Nat.add_zero] at z0
    have hm0 : lowR (fun c => c.needles) (refL X) 0 = (rcAt (refL X) 0).needles := rfl
    obtain ⟨k, hk⟩ : ∃ k, k = (refL X).length := ⟨_, rfl⟩
    obtain ⟨v0, hv0⟩ : ∃ v0, v0 = (rcAt (refL X) 0).needles := ⟨_, rfl⟩
    have hkI : (0 : Int) < (k : Int) := by omega
    rw [← hv0] at z0 hm0
    rw [← hk] at hl64 ⊢
    have HR := Lib.hid r0
    have HMB := Lib.hid hmb
    have HM0 := Lib.hid hm0
    have HKL := Lib.hid hk
    have HE1 := Lib.hid hE1
    have HX := Lib.hid hX
    have H0 := Lib.hid h0
    obtain ⟨x0, hx0⟩ := ExtW.of (Ext.refl W1)
    clear hr1 hbd ra rb rc r0 hmb hm0 hk hv0 hE1 hX h0 hpos d0 d1 d2 d3 d4 d5 hd1 HK
    conv => arg 5; rw [hx0]
    clear hx0
    go_wp2
    go_loopw [6, 7] (fun a i wr => ∃ m : Nat, m ≤ k ∧ i = .int .i64 m ∧ a = .int .i64 (lowR (fun c => c.needles) (refL X) m) ∧ ∃ x : ExtW W1, wr = x.w) (fun _ i _ => k - (intOf i).toNat)
    case atStart => exact ⟨0, Nat.zero_le _, rfl, by rw [HM0.out], x0, rfl⟩
    case round =>
      clear x0
      obtain ⟨m, hm, rfl, rfl, x, rfl⟩ := hrel
      obtain ⟨mt, hmt⟩ : ∃ mt, mt = lowR (fun c => c.needles) (refL X) m := ⟨_, rfl⟩
      have hmtb := HMB.out m (by have := HKL.out; omega)
      rw [← hmt] at hmtb
      conv => arg 4; rw [← hmt]
      by_cases hlt : m < k
      · have hltI : (m : Int) < (k : Int) := by omega
        have y0 := HR.out m (by have := HKL.out; omega)
        have hs : lowR (fun c => c.needles) (refL X) (m + 1) = min mt (rcAt (refL X) m).needles := by rw [hmt]; rfl
        have hs2 := HMB.out (m + 1) (by have := HKL.out; omega)
        obtain ⟨vm, hvm⟩ : ∃ vm, vm = (rcAt (refL X) m).needles := ⟨_, rfl⟩
        rw [← hvm] at y0 hs
        have HS := Lib.hid hs
        clear hs hs2 hvm hmt z0
        by_cases hle : mt ≤ vm
        · go_wp2
          go_roundw
          case rel => exact ⟨m + 1, by omega, by go_num, by rw [HS.out]; (try congr 1); (try split) <;> omega, _, rfl⟩
          case measure => simp [intOf]; omega
        · go_wp2
          go_roundw
          case rel => exact ⟨m + 1, by omega, by go_num, by rw [HS.out]; (try congr 1); (try split) <;> omega, _, rfl⟩
          case measure => simp [intOf]; omega
      · obtain rfl : m = k := by omega
        have HMT := Lib.hid hmt
        clear hmt
        go_wp2
        refine bodyPost_ret (v := .tuple #[.int .i64 mt, .int .i64 0]) (by simp [results, Try.results45, go_sem]) rfl ⟨by rw [refV_some HX.out H0.out, ← HKL.out, HMT.out], HE.out.trans (HE1.out.trans x.h)⟩

set_option maxRecDepth 20000 in
set_option maxHeartbeats 16000000 in
theorem RecordsR03 (v : Value) (X : Wr) (w : World) (hv : WrV w v X) (hM : ModestW X) :
    Calls Try.prog 46 #[v] w (RetE (refV X (fun c => c.recs)) w) := by
  have HM := Lib.hid hM
  have HV := Lib.hid hv
  obtain ⟨p, cp, q, d, rfl, hR, hG⟩ := hv
  clear hM hR hG
  go_enter Try.func46, Try.ntmps46
  go_upto_region 1 with (fail)
  generalize hW : World.alloc _ _ = W
  have hb0 : W.heap[w.heap.size]? = some (.cells #[.int .i64 X.weeks, .int .i64 X.price, .int .i64 X.age, .int .i64 X.step, .slice p X.rough.length cp, .slice q X.recs.length d] 25) := by rw [← hW]; exact heap_new _ _
  have hE : Ext w W := by rw [← hW]; exact Ext.alloc (Ext.refl w) _
  have d0 : W.cell? ⟨w.heap.size, 0, none⟩ = some (.int .i64 X.weeks) := (cell_of_heap hb0 0).trans rfl
  have d1 : W.cell? ⟨w.heap.size, 1, none⟩ = some (.int .i64 X.price) := (cell_of_heap hb0 1).trans rfl
  have d2 : W.cell? ⟨w.heap.size, 2, none⟩ = some (.int .i64 X.age) := (cell_of_heap hb0 2).trans rfl
  have d3 : W.cell? ⟨w.heap.size, 3, none⟩ = some (.int .i64 X.step) := (cell_of_heap hb0 3).trans rfl
  have d4 : W.cell? ⟨w.heap.size, 4, none⟩ = some (.slice p X.rough.length cp) := (cell_of_heap hb0 4).trans rfl
  have d5 : W.cell? ⟨w.heap.size, 5, none⟩ = some (.slice q X.recs.length d) := (cell_of_heap hb0 5).trans rfl
  have HK := Lib.hid (knownR03 _ X W (WrV.mono _ _ _ _ hE HV.out) HM.out)
  have HE := Lib.hid hE
  clear hW hb0 hE
  go_upto_region 2 with (go_at_call 68; refine HK.out.mono ?_; rintro e W1 ⟨hE1, ⟨hX, rfl⟩ | ⟨hX, h0, rfl⟩ | ⟨hX, h0, p1, c1, rfl, hr1⟩⟩)
  · have HE1 := Lib.hid hE1
    have HX := Lib.hid hX
    clear hE1 hX
    go_wp2
    refine bodyPost_ret (v := .tuple #[.int .i64 0, .int .i64 30]) (by simp [results, Try.results46, go_sem]) rfl ⟨by rw [refV_bad HX.out], HE.out.trans HE1.out⟩
  · have HE1 := Lib.hid hE1
    have HX := Lib.hid hX
    have H0 := Lib.hid h0
    clear hE1 hX h0
    go_wp2
    refine bodyPost_ret (v := .tuple #[.int .i64 0, .int .i64 3]) (by simp [results, Try.results46, go_sem]) rfl ⟨by rw [refV_nil HX.out H0.out], HE.out.trans HE1.out⟩
  · have hpos := List.length_pos_iff.2 h0
    obtain ⟨hl64, hbd⟩ := refL_bd hX
    obtain ⟨b, o, rfl, ra, rb, rc⟩ := hr1 0 hpos
    have hmb := fun k hk => lowR_bd (f := fun c => c.recs) h0 (fun i hi => (hbd i hi).2.2) k hk
    have hd1 := hE1.cell d1
    have z1 := ExtW.cell hd1
    have r0 := fun i (hi : i < (refL X).length) => (show ∀ x : ExtW W1, x.w.cell? ⟨b, o + i * 3 + 2, none⟩ = some (.int .i64 (rcAt (refL X) i).recs) from by
      obtain ⟨b', o', he, ra', rb', rc'⟩ := hr1 i hi
      cases he
      rw [rcAt_eq hi]
      exact ExtW.cell rc')
    have z0 := r0 0 hpos
    rw [Nat.zero_mul, Nat.add_zero] at z0
    have hm0 : lowR (fun c => c.recs) (refL X) 0 = (rcAt (refL X) 0).recs := rfl
    obtain ⟨k, hk⟩ : ∃ k, k = (refL X).length := ⟨_, rfl⟩
    obtain ⟨v0, hv0⟩ : ∃ v0, v0 = (rcAt (refL X) 0).recs := ⟨_, rfl⟩
    have hkI : (0 : Int) < (k : Int) := by omega
    rw [← hv0] at z0 hm0
    rw [← hk] at hl64 ⊢
    have HR := Lib.hid r0
    have HMB := Lib.hid hmb
    have HM0 := Lib.hid hm0
    have HKL := Lib.hid hk
    have HE1 := Lib.hid hE1
    have HX := Lib.hid hX
    have H0 := Lib.hid h0
    obtain ⟨x0, hx0⟩ := ExtW.of (Ext.refl W1)
    clear hr1 hbd ra rb rc r0 hmb hm0 hk hv0 hE1 hX h0 hpos d0 d1 d2 d3 d4 d5 hd1 HK
    conv => arg 5; rw [hx0]
    clear hx0
    go_wp2
    go_loopw [6, 7] (fun a i wr => ∃ m : Nat, m ≤ k ∧ i = .int .i64 m ∧ a = .int .i64 (lowR (fun c => c.recs) (refL X) m) ∧ ∃ x : ExtW W1, wr = x.w) (fun _ i _ => k - (intOf i).toNat)
    case atStart => exact ⟨0, Nat.zero_le _, rfl, by rw [HM0.out], x0, rfl⟩
    case round =>
      clear x0
      obtain ⟨m, hm, rfl, rfl, x, rfl⟩ := hrel
      obtain ⟨mt, hmt⟩ : ∃ mt, mt = lowR (fun c => c.recs) (refL X) m := ⟨_, rfl⟩
      have hmtb := HMB.out m (by have := HKL.out; omega)
      rw [← hmt] at hmtb
      conv => arg 4; rw [← hmt]
      by_cases hlt : m < k
      · have hltI : (m : Int) < (k : Int) := by omega
        have y0 := HR.out m (by have := HKL.out; omega)
        have hs : lowR (fun c => c.recs) (refL X) (m + 1) = min mt (rcAt (refL X) m).recs := by rw [hmt]; rfl
        have hs2 := HMB.out (m + 1) (by have := HKL.out; omega)
        obtain ⟨vm, hvm⟩ : ∃ vm, vm = (rcAt (refL X) m).recs := ⟨_, rfl⟩
        rw [← hvm] at y0 hs
        have HS := Lib.hid hs
        clear hs hs2 hvm hmt z0
        by_cases hle : mt ≤ vm
        · go_wp2
          go_roundw
          case rel => exact ⟨m + 1, by omega, by go_num, by rw [HS.out]; (try congr 1); (try split) <;> omega, _, rfl⟩
          case measure => simp [intOf]; omega
        · go_wp2
          go_roundw
          case rel => exact ⟨m + 1, by omega, by go_num, by rw [HS.out]; (try congr 1); (try split) <;> omega, _, rfl⟩
          case measure => simp [intOf]; omega
      · obtain rfl : m = k := by omega
        have HMT := Lib.hid hmt
        clear hmt
        go_wp2
        refine bodyPost_ret (v := .tuple #[.int .i64 mt, .int .i64 0]) (by simp [results, Try.results46, go_sem]) rfl ⟨by rw [refV_some HX.out H0.out, ← HKL.out, HMT.out], HE.out.trans (HE1.out.trans x.h)⟩
end Go.Proofs.Ytkcilgjkdiopnaa
