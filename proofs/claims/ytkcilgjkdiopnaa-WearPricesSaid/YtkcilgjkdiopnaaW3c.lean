/- The walks of isWeek and of every, at the weeks of a plan. -/
import Derived.Test.YtkcilgjkdiopnaaW3a
namespace Go.Proofs.Ytkcilgjkdiopnaa
open Go.RowKit

theorem Rises.nil (lo hi : Int) : Rises [] lo hi := ⟨fun i h => absurd h (by simp), fun i h => absurd h (by simp)⟩
theorem Rises.snoc {l : List Int} {lo hi : Int} {k : Nat} (hk : k < l.length) (h : Rises (l.take k) lo hi) (h1 : lo ≤ l[k]) (h2 : l[k] ≤ hi) (h3 : ∀ j (h : j + 1 = k), l[j]'(by omega) < l[k]) : Rises (l.take (k + 1)) lo hi := by
  obtain ⟨ha, hb⟩ := h
  refine ⟨fun i hi' => ?_, fun i hi' => ?_⟩
  · simp only [List.length_take] at hi'
    rw [List.getElem_take]
    by_cases e : i = k
    · subst e; exact ⟨h1, h2⟩
    · have := ha i (by simp only [List.length_take]; omega)
      rwa [List.getElem_take] at this
  · simp only [List.length_take] at hi'
    rw [List.getElem_take, List.getElem_take]
    by_cases e : i + 1 = k
    · subst e; exact h3 i rfl
    · have := hb i (by simp only [List.length_take]; omega)
      rwa [List.getElem_take, List.getElem_take] at this

def WeekOK (n : Nat) (x : Wk) : Prop := Rises x.recs 0 ((n : Int) - 1) ∧ 0 ≤ x.needle ∧ x.needle ≤ 1

set_option maxHeartbeats 800000 in
theorem isWeek03 (u v : Value) (X : Wr) (x : Wk) (w : World) (hu : WrV w u X) (hv : WkV w v x) (hX : X.recs.length ≤ 100000) (hx : x.recs.length ≤ 100000) :
    Calls Try.prog 87 #[u, v] w (RetE (.bool (bP (WeekOK X.recs.length x))) w) := by
  obtain ⟨p, c, q, d, rfl, h1, h2⟩ := hu
  obtain ⟨s, e, rfl, h3⟩ := hv
  go_enter Try.func87, Try.ntmps87
  go_upto_region 1 with (fail)
  obtain ⟨W, hW⟩ : ∃ W, W = (w.alloc (.cells #[.int .i64 X.weeks, .int .i64 X.price, .int .i64 X.age, .int .i64 X.step, .slice p X.rough.length c, .slice q X.recs.length d] 88)).alloc (.cells #[.int .i64 x.needle, .slice s x.recs.length e] 61) := ⟨_, rfl⟩
  have hn1 := heap_new1 w (.cells #[.int .i64 X.weeks, .int .i64 X.price, .int .i64 X.age, .int .i64 X.step, .slice p X.rough.length c, .slice q X.recs.length d] 88) (.cells #[.int .i64 x.needle, .slice s x.recs.length e] 61)
  have hn2 := heap_new2 w (.cells #[.int .i64 X.weeks, .int .i64 X.price, .int .i64 X.age, .int .i64 X.step, .slice p X.rough.length c, .slice q X.recs.length d] 88) (.cells #[.int .i64 x.needle, .slice s x.recs.length e] 61)
  have hE : Ext w W := by rw [hW]; exact Ext.alloc (Ext.alloc (Ext.refl w) _) _
  rw [← hW] at hn1 hn2 ⊢
  have q5 := ExtW.cell (v := .slice q X.recs.length d) (cell_of_heap hn1 5)
  have n0 := ExtW.cell (v := .int .i64 x.needle) (cell_of_heap hn2 0)
  have n1 := ExtW.cell (v := .slice s x.recs.length e) (cell_of_heap hn2 1)
  have k3 := h3.ext hE
  obtain ⟨x0, hx0⟩ := ExtW.of (Ext.refl W)
  clear hW hn1 hn2 h1 h2 h3
  conv => arg 5; rw [hx0]
  clear hx0
  go_wp2
  go_loopw [10] (fun i wr => ∃ k : Nat, k ≤ x.recs.length ∧ i = .int .i64 k ∧ Rises (x.recs.take k) 0 ((X.recs.length : Int) - 1) ∧ ∃ x : ExtW W, wr = x.w) (fun i _ => x.recs.length - (intOf i).toNat)
  case atStart => exact ⟨0, Nat.zero_le _, rfl, Rises.nil _ _, x0, rfl⟩
  case round =>
    clear x0
    obtain ⟨k, hk, rfl, hr, y, rfl⟩ := hrel
    have HR := Lib.hid hr
    clear hr
    by_cases hlt : k < x.recs.length
    · obtain ⟨b, o, rfl, hc⟩ := k3.at k hlt
      have rc := ExtW.cell hc
      clear hc
      have hx1 : IntKind.i64.wrap ((X.recs.length : Int) - 1) = (X.recs.length : Int) - 1 := by rw [IntKind.wrap_i64]; omega
      by_cases hw : 0 ≤ x.recs[k] ∧ x.recs[k] ≤ (X.recs.length : Int) - 1
      · have HW := Lib.hid hw
        have HWC := Lib.hid (fun y : ExtW W => ExtW.call (RetQ.e (RetQ.bt hw (within03 x.recs[k] 0 ((X.recs.length : Int) - 1) y.w))))
        clear hw
        by_cases hk0 : 0 < k
        · obtain ⟨b', o', he, hc'⟩ := k3.at (k - 1) (by omega)
          obtain ⟨rfl, rfl⟩ : b = b' ∧ o = o' := by simpa using he
          clear he
          have rc' := ExtW.cell hc'
          clear hc'
          have hk0' : decide ((0 : Int) < k) = true := by simp; omega
          have hx : IntKind.i64.wrap ((k : Int) - 1) = (k : Int) - 1 := by rw [IntKind.wrap_i64]; omega
          have hx2 : ((k : Int) - 1).toNat = k - 1 := by omega
          have hx3 : 0 ≤ (k : Int) - 1 := by omega
          by_cases hle : x.recs[k] ≤ x.recs[k-1]
          · have HL := Lib.hid hle
            have hle' : decide (x.recs[k] ≤ x.recs[k-1]) = true := by simpa using hle
            clear hle
            go_wp2_with (go_at_call 54; refine (HWC.out _).mono ?_; rintro e w' ⟨rfl, y2, rfl⟩)
            go_ret
            refine RetE.ff (hE.trans y2.h) ?_
            intro hR
            have := hR.1.2 (k-1) (by omega)
            simp only [show k - 1 + 1 = k from by omega] at this
            have := HL.out
            omega
          · have HL := Lib.hid hle
            have hle' : decide (x.recs[k] ≤ x.recs[k-1]) = false := by simpa using hle
            clear hle
            go_wp2_with (go_at_call 54; refine (HWC.out _).mono ?_; rintro e w' ⟨rfl, y2, rfl⟩)
            go_roundw
            case rel => exact ⟨k + 1, by omega, by go_num, Rises.snoc hlt HR.out HW.out.1 HW.out.2 (by intro j hj; obtain rfl : j = k - 1 := (by omega); have := HL.out; omega), y2, rfl⟩
            case measure => simp [intOf]; omega
        · obtain rfl : k = 0 := by omega
          simp only [Nat.add_zero] at rc
          clear hk0
          go_wp2_with (go_at_call 54; refine (HWC.out _).mono ?_; rintro e w' ⟨rfl, y2, rfl⟩)
          go_roundw
          case rel => exact ⟨0 + 1, by omega, by go_num, Rises.snoc hlt HR.out HW.out.1 HW.out.2 (by intro j hj; omega), y2, rfl⟩
          case measure => simp [intOf]; omega
      · have HW := Lib.hid hw
        have HWC := Lib.hid (fun y : ExtW W => ExtW.call (RetQ.e (RetQ.bf hw (within03 x.recs[k] 0 ((X.recs.length : Int) - 1) y.w))))
        clear hw
        go_wp2_with (go_at_call 54; refine (HWC.out _).mono ?_; rintro e w' ⟨rfl, y2, rfl⟩)
        go_ret
        exact RetE.ff (hE.trans y2.h) (fun hR => HW.out (hR.1.1 k hlt))
    · have HWC := Lib.hid (fun y : ExtW W => ExtW.call (RetQ.e (within03 x.needle 0 1 y.w)))
      go_wp2_with (go_at_call 54; refine (HWC.out _).mono ?_; rintro e w' ⟨rfl, y2, rfl⟩)
      go_ret
      refine RetE.of (hE.trans y2.h) ?_
      rw [bP_iff]
      have := HR.out
      rw [List.take_of_length_le (by omega)] at this
      exact ⟨fun h => ⟨this, h⟩, fun h => h.2⟩

set_option maxHeartbeats 800000 in
theorem notWeek03 (u v : Value) (X : Wr) (x : Wk) (B : Nat) (w : World) (hu : WrV w u X) (hv : WkV w v x) (hX : X.recs.length ≤ 100000) (hx : x.recs.length ≤ 100000)
    (hB : w.cell? ⟨B, 0, none⟩ = some (.func (.func 87) #[u] #[])) :
    Calls Try.prog 104 #[v, .pointer (some ⟨B, 0, none⟩)] w (RetE (.bool (bP (¬WeekOK X.recs.length x))) w) := by
  have hcall := Try.call87
  obtain ⟨s, e, rfl, h3⟩ := id hv
  go_enter Try.func104, Try.ntmps104
  go_upto_region 1 with (fail)
  have hn := heap_new w (.cells #[.int .i64 x.needle, .slice s x.recs.length e] 61)
  obtain ⟨W, hW⟩ : ∃ W, W = w.alloc (.cells #[.int .i64 x.needle, .slice s x.recs.length e] 61) := ⟨_, rfl⟩
  have hE : Ext w W := by rw [hW]; exact Ext.alloc (Ext.refl w) _
  rw [← hW] at hn ⊢
  have n0 := cell_of_heap hn 0
  have n1 := cell_of_heap hn 1
  simp at n0 n1
  have hB1 := hE.cell hB
  have hC := isWeek03 u (.agg #[.int .i64 x.needle, .slice s x.recs.length e]) X x W (WrV.mono _ _ _ _ hE hu) ⟨s, e, rfl, h3.ext hE⟩ hX hx
  clear hW hn hB hv h3 hu
  by_cases h : WeekOK X.recs.length x
  · have HC := Lib.hid (RetE.bt h hC)
    have H := Lib.hid h
    clear h hC
    go_wp2_with fail
    refine HC.out.mono ?_
    rintro e W2 ⟨rfl, hE2⟩
    go_wp2
    go_ret
    exact RetE.ff (hE.trans hE2) (fun h => h H.out)
  · have HC := Lib.hid (RetE.bf h hC)
    have H := Lib.hid h
    clear h hC
    go_wp2_with fail
    refine HC.out.mono ?_
    rintro e W2 ⟨rfl, hE2⟩
    go_wp2
    go_ret
    exact RetE.tt (hE.trans hE2) H.out

set_option maxHeartbeats 800000 in
theorem IndexFuncWk (p : Option Addr) (l : List Wk) (c g : Nat) (cap : Array Value) (w : World) (q : Wk → Prop) (hl : l.length ≤ 100000) (h : WksAt w p l) (ha : Asks WkV g #[] cap w l q) :
    Calls Try.prog 119 #[.slice p l.length c, .func (.func g) #[] cap] w (IdxPost (∃ x ∈ l, q x) w) := by
  obtain ⟨hcall, hf⟩ := ha
  have HF := Lib.hid hf
  clear hf
  go_enter Try.func119, Try.ntmps119
  go_wp2
  go_loopw [8] (fun i wr => ∃ k : Nat, k ≤ l.length ∧ i = .int .i64 k ∧ (∀ x ∈ l.take k, ¬q x) ∧ Ext w wr) (fun i _ => l.length - (intOf i).toNat)
  case atStart => exact ⟨0, by omega, rfl, by simp, Ext.refl _⟩
  case round =>
    obtain ⟨k, hk, rfl, hr, hE⟩ := hrel
    have HR := Lib.hid hr
    clear hr
    by_cases hlt : k < l.length
    · obtain ⟨b, o, q', c', rfl, hc, hd, hq'⟩ := (h.ext hE) k hlt
      have hC := HF.out wr (.agg #[.int .i64 l[k].needle, .slice q' (l[k]).recs.length c']) l[k] hE (List.getElem_mem hlt) ⟨q', c', rfl, hq'⟩
      simp only [List.append_toArray, List.nil_append] at hC
      by_cases hq : q l[k]
      · have HC := Lib.hid (RetE.bt hq hC)
        have HQ := Lib.hid hq
        clear hC hq
        go_wp2_with fail
        refine HC.out.mono ?_
        rintro e W2 ⟨rfl, hE2⟩
        go_wp2
        go_ret
        exact ⟨k, rfl, ⟨fun _ => ⟨_, List.getElem_mem hlt, HQ.out⟩, fun _ => by omega⟩, hE.trans hE2⟩
      · have HC := Lib.hid (RetE.bf hq hC)
        have HQ := Lib.hid hq
        clear hC hq
        go_wp2_with fail
        refine HC.out.mono ?_
        rintro e W2 ⟨rfl, hE2⟩
        go_wp2
        go_roundw
        case rel => exact ⟨k + 1, by omega, by go_num, by
          rw [List.take_succ_eq_append_getElem hlt]
          intro x hx
          rcases List.mem_append.1 hx with h1 | h1
          · exact HR.out x h1
          · rw [List.mem_singleton.1 h1]; exact HQ.out, hE.trans hE2⟩
        case measure => simp [intOf]; omega
    · go_wp2
      go_ret
      exact ⟨-1, rfl, ⟨fun h => absurd h (by decide), fun ⟨x, hx, hqx⟩ => absurd hqx (HR.out x (by rwa [List.take_of_length_le (by omega)]))⟩, hE⟩

set_option maxHeartbeats 400000 in
theorem ContainsFuncWk (p : Option Addr) (l : List Wk) (c g : Nat) (cap : Array Value) (w : World) (q : Wk → Prop) (hl : l.length ≤ 100000) (h : WksAt w p l) (ha : Asks WkV g #[] cap w l q) :
    Calls Try.prog 103 #[.slice p l.length c, .func (.func g) #[] cap] w (RetE (.bool (bP (∃ x ∈ l, q x))) w) := by
  have HC := Lib.hid (IndexFuncWk p l c g cap w q hl h ha)
  clear ha
  go_enter Try.func103, Try.ntmps103
  go_wp2_with fail
  refine HC.out.mono ?_
  rintro e W2 ⟨n, rfl, hn, hE2⟩
  have HN := Lib.hid hn
  clear hn
  go_wp2
  go_ret
  exact RetE.of hE2 (by rw [← HN.out]; simp)

set_option maxHeartbeats 400000 in
theorem everyWk03 (p : Option Addr) (l : List Wk) (c : Nat) (u : Value) (X : Wr) (w : World) (hl : l.length ≤ 100000) (hr : ∀ x ∈ l, x.recs.length ≤ 100000) (hX : X.recs.length ≤ 100000) (hu : WrV w u X) (h : WksAt w p l) :
    Calls Try.prog 86 #[.slice p l.length c, .func (.func 87) #[u] #[]] w (RetE (.bool (bP (∀ x ∈ l, WeekOK X.recs.length x))) w) := by
  go_enter Try.func86, Try.ntmps86
  go_upto_region 1 with (fail)
  have hn := heap_new w (.cells #[.func (.func 87) #[u] #[]] 139)
  obtain ⟨W, hW⟩ : ∃ W, W = w.alloc (.cells #[.func (.func 87) #[u] #[]] 139) := ⟨_, rfl⟩
  have hE : Ext w W := by rw [hW]; exact Ext.alloc (Ext.refl w) _
  rw [← hW] at hn ⊢
  have hA := ContainsFuncWk p l c 104 #[.pointer (some ⟨w.heap.size, 0, none⟩)] W (fun x => ¬WeekOK X.recs.length x) hl (h.ext hE) ⟨Try.call104, fun w' v x hw' hx hv =>
    notWeek03 u v X x w.heap.size w' (WrV.mono _ _ _ _ (hE.trans hw') hu) hv hX (hr x hx) (hw'.cell (cell_of_heap hn 0))⟩
  have HC := Lib.hid hA
  clear hW hn hA
  go_wp2_with fail
  refine HC.out.mono ?_
  rintro e W2 ⟨rfl, hE2⟩
  go_wp2
  go_ret
  refine RetE.of (hE.trans hE2) ?_
  by_cases hq : ∃ x ∈ l, ¬WeekOK X.recs.length x
  · rw [bP_t hq]
    obtain ⟨x, hx, hn⟩ := hq
    exact ⟨fun h => by simp at h, fun h => absurd (h x hx) hn⟩
  · rw [bP_f hq]
    exact ⟨fun _ n hn => Classical.byContradiction fun h => hq ⟨n, hn, h⟩, fun _ => by simp⟩
end Go.Proofs.Ytkcilgjkdiopnaa
