/- The walks of the small functions of package wear, and of its Check. -/
import Derived.Test.YtkcilgjkdiopnaaRows
import Derived.Test.YtkcilgjkdiopnaaE03a
namespace Go.Proofs.Ytkcilgjkdiopnaa
open Go.RowKit

set_option maxHeartbeats 400000 in
theorem within03 (n lo hi : Int) (w : World) :
    Calls Try.prog 54 #[.int .i64 n, .int .i64 lo, .int .i64 hi] w (RetQ (.bool (bP (lo ≤ n ∧ n ≤ hi))) w) := by
  go_enter Try.func54, Try.ntmps54
  by_cases h1 : lo ≤ n
  · by_cases h2 : n ≤ hi
    · go_wp2
      go_ret
      exact RetQ.t0 ⟨h1, h2⟩
    · go_wp2
      go_ret
      exact RetQ.f0 (by omega)
  · go_wp2
    go_ret
    exact RetQ.f0 (by omega)

/-- a function value that asks each element of a list -/
def Asks {α : Type} (R : World → Value → α → Prop) (g : Nat) (fst cap : Array Value) (w : World) (l : List α) (p : α → Prop) : Prop :=
  (∀ args w, (callFunc g args).run Try.prog w = .ok (.enter g args) w) ∧ ∀ w' v x, Ext w w' → x ∈ l → R w' v x → Calls Try.prog g (fst ++ #[v] ++ cap) w' (RetE (.bool (bP (p x))) w')

set_option maxHeartbeats 800000 in
theorem IndexFuncInt (p : Option Addr) (l : List Int) (c g : Nat) (cap : Array Value) (w : World) (q : Int → Prop) (hl : l.length ≤ 100000) (h : IntsAt w p l) (ha : Asks IntR g #[] cap w l q) :
    Calls Try.prog 102 #[.slice p l.length c, .func (.func g) #[] cap] w (IdxPost (∃ x ∈ l, q x) w) := by
  obtain ⟨hcall, hf⟩ := ha
  have HF := Lib.hid hf
  clear hf
  go_enter Try.func102, Try.ntmps102
  go_wp2
  go_loopw [8] (fun i wr => ∃ k : Nat, k ≤ l.length ∧ i = .int .i64 k ∧ (∀ x ∈ l.take k, ¬q x) ∧ Ext w wr) (fun i _ => l.length - (intOf i).toNat)
  case atStart => exact ⟨0, by omega, rfl, by simp, Ext.refl _⟩
  case round =>
    obtain ⟨k, hk, rfl, hr, hE⟩ := hrel
    have HR := Lib.hid hr
    clear hr
    by_cases hlt : k < l.length
    · obtain ⟨b, o, rfl, hc⟩ := (h.ext hE).at k hlt
      have hC := HF.out wr (.int .i64 l[k]) l[k] hE (List.getElem_mem hlt) rfl
      simp only [List.append_toArray, List.nil_append] at hC
      by_cases hq : q l[k]
      · have HC := Lib.hid (RetE.bt hq hC)
        have HQ := Lib.hid hq
        clear hC hq
        go_wp2_with fail
        refine HC.out.mono ?_
        rintro e W2 ⟨rfl, hE2⟩
        go_wp2
        go_ret
        exact ⟨k, rfl, ⟨fun _ => ⟨_, List.getElem_mem hlt, HQ.out⟩, fun _ => by omega⟩, hE.trans hE2⟩
      · have HC := Lib.hid (RetE.bf hq hC)
        have HQ := Lib.hid hq
        clear hC hq
        go_wp2_with fail
        refine HC.out.mono ?_
        rintro e W2 ⟨rfl, hE2⟩
        go_wp2
        go_roundw
        case rel => exact ⟨k + 1, by omega, by go_num, by
          rw [List.take_succ_eq_append_getElem hlt]
          intro x hx
          rcases List.mem_append.1 hx with h1 | h1
          · exact HR.out x h1
          · rw [List.mem_singleton.1 h1]; exact HQ.out, hE.trans hE2⟩
        case measure => simp [intOf]; omega
    · go_wp2
      go_ret
      exact ⟨-1, rfl, ⟨fun h => absurd h (by decide), fun ⟨x, hx, hqx⟩ => absurd hqx (HR.out x (by rwa [List.take_of_length_le (by omega)]))⟩, hE⟩

set_option maxHeartbeats 400000 in
theorem ContainsFuncInt (p : Option Addr) (l : List Int) (c g : Nat) (cap : Array Value) (w : World) (q : Int → Prop) (hl : l.length ≤ 100000) (h : IntsAt w p l) (ha : Asks IntR g #[] cap w l q) :
    Calls Try.prog 83 #[.slice p l.length c, .func (.func g) #[] cap] w (RetE (.bool (bP (∃ x ∈ l, q x))) w) := by
  have HC := Lib.hid (IndexFuncInt p l c g cap w q hl h ha)
  clear ha
  go_enter Try.func83, Try.ntmps83
  go_wp2_with fail
  refine HC.out.mono ?_
  rintro e W2 ⟨n, rfl, hn, hE2⟩
  have HN := Lib.hid hn
  clear hn
  go_wp2
  go_ret
  exact RetE.of hE2 (by rw [← HN.out]; simp)

def PlayOK (n : Int) : Prop := 0 ≤ n ∧ n ≤ 99
set_option maxHeartbeats 400000 in
theorem isPlays03 (n : Int) (w : World) : Calls Try.prog 55 #[.int .i64 n] w (RetQ (.bool (bP (PlayOK n))) w) := by
  have HC := Lib.hid (within03 n 0 99 w)
  go_enter Try.func55, Try.ntmps55
  go_wp2_with (go_at_call 54; refine HC.out.mono ?_; rintro e w' ⟨rfl, m, rfl⟩)
  go_ret
  exact RetQ.fin (by repeat (first | exact Qt.refl _ | assumption | refine Qt.drewN ?_ _ | refine Qt.drew ?_)) rfl

set_option maxHeartbeats 400000 in
theorem notPlays03 (n : Int) (B : Nat) (w : World) (hB : w.cell? ⟨B, 0, none⟩ = some (.func (.func 55) #[] #[])) :
    Calls Try.prog 84 #[.int .i64 n, .pointer (some ⟨B, 0, none⟩)] w (RetE (.bool (bP (¬PlayOK n))) w) := by
  have hcall := Try.call55
  by_cases h : PlayOK n
  · have HC := Lib.hid (RetQ.bt h (isPlays03 n w))
    have H := Lib.hid h
    clear h
    go_enter Try.func84, Try.ntmps84
    go_wp2_with (go_at_call 55; refine HC.out.mono ?_; rintro e w' ⟨rfl, m, rfl⟩)
    go_ret
    exact RetE.ff (Qt.ext (by repeat (first | exact Qt.refl _ | assumption | refine Qt.drewN ?_ _ | refine Qt.drew ?_))) (fun h => h H.out)
  · have HC := Lib.hid (RetQ.bf h (isPlays03 n w))
    have H := Lib.hid h
    clear h
    go_enter Try.func84, Try.ntmps84
    go_wp2_with (go_at_call 55; refine HC.out.mono ?_; rintro e w' ⟨rfl, m, rfl⟩)
    go_ret
    exact RetE.tt (Qt.ext (by repeat (first | exact Qt.refl _ | assumption | refine Qt.drewN ?_ _ | refine Qt.drew ?_))) H.out

set_option maxHeartbeats 400000 in
theorem everyPlays03 (p : Option Addr) (l : List Int) (c : Nat) (w : World) (hl : l.length ≤ 100000) (h : IntsAt w p l) :
    Calls Try.prog 56 #[.slice p l.length c, .func (.func 55) #[] #[]] w (RetE (.bool (bP (∀ n ∈ l, PlayOK n))) w) := by
  go_enter Try.func56, Try.ntmps56
  go_upto_region 1 with (fail)
  have hn := heap_new w (.cells #[.func (.func 55) #[] #[]] 85)
  obtain ⟨W, hW⟩ : ∃ W, W = w.alloc (.cells #[.func (.func 55) #[] #[]] 85) := ⟨_, rfl⟩
  have hE : Ext w W := by rw [hW]; exact Ext.alloc (Ext.refl w) _
  rw [← hW] at hn ⊢
  have hA := ContainsFuncInt p l c 84 #[.pointer (some ⟨w.heap.size, 0, none⟩)] W (fun n => ¬PlayOK n) hl (h.ext hE) ⟨Try.call84, fun w' v x hw' _ hv => by
    rw [show v = .int .i64 x from hv]; exact notPlays03 x w.heap.size w' (hw'.cell (cell_of_heap hn 0))⟩
  have HC := Lib.hid hA
  clear hW hn hA
  go_wp2_with fail
  refine HC.out.mono ?_
  rintro e W2 ⟨rfl, hE2⟩
  go_wp2
  go_ret
  refine RetE.of (hE.trans hE2) ?_
  by_cases hq : ∃ x ∈ l, ¬PlayOK x
  · rw [bP_t hq]
    obtain ⟨x, hx, hn⟩ := hq
    exact ⟨fun h => by simp at h, fun h => absurd (h x hx) hn⟩
  · rw [bP_f hq]
    exact ⟨fun _ n hn => Classical.byContradiction fun h => hq ⟨n, hn, h⟩, fun _ => by simp⟩
end Go.Proofs.Ytkcilgjkdiopnaa
