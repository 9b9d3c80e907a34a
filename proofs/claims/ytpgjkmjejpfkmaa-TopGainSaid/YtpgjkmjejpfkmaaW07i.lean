/- The walks of slices.ContainsFunc and slices.Contains, at the instances that swaps uses. -/
import Derived.Test.YtpgjkmjejpfkmaaW07g
import Derived.Test.YtpgjkmjejpfkmaaSw
namespace Go.Proofs.Ytpgjkmjejpfkmaa
open Go.RowKit

theorem RetE.of {P : Prop} {b : Bool} {w w' : World} (hw : Ext w w') (h : b = true ↔ P) : RetE (.bool (bP P)) w (.returned (.bool b)) w' := ⟨by rw [Bool.eq_iff_iff.2 (h.trans bP_iff.symm)], hw⟩
theorem RetQ.of {P : Prop} {b : Bool} {w w' : World} (hw : Qt w w') (h : b = true ↔ P) : RetQ (.bool (bP P)) w (.returned (.bool b)) w' := ⟨by rw [Bool.eq_iff_iff.2 (h.trans bP_iff.symm)], hw⟩

def IdxPost (p : Prop) (w : World) (e : Ending) (w' : World) : Prop := ∃ n : Int, e = .returned (.int .i64 n) ∧ (0 ≤ n ↔ p) ∧ Ext w w'

/-- a function value that asks each element of a list -/
def Asks {α : Type} (R : World → Value → α → Prop) (g : Nat) (cap : Array Value) (w : World) (l : List α) (p : α → Prop) : Prop :=
  (∀ args w, (callFunc g args).run Try.prog w = .ok (.enter g args) w) ∧ ∀ w' v x, Ext w w' → x ∈ l → R w' v x → Calls Try.prog g (#[v] ++ cap) w' (RetE (.bool (bP (p x))) w')

set_option maxHeartbeats 800000 in
theorem IndexFuncInt (p : Option Addr) (l : List Int) (c g : Nat) (cap : Array Value) (w : World) (q : Int → Prop) (hl : l.length ≤ 100000) (h : IntsAt w p l) (ha : Asks IntR g cap w l q) :
    Calls Try.prog 92 #[.slice p l.length c, .func (.func g) #[] cap] w (IdxPost (∃ x ∈ l, q x) w) := by
  obtain ⟨hcall, hf⟩ := ha
  have HF := Lib.hid hf
  clear hf
  go_enter Try.func92, Try.ntmps92
  go_wp2
  go_loopw [8] (fun i wr => ∃ k : Nat, k ≤ l.length ∧ i = .int .i64 k ∧ (∀ x ∈ l.take k, ¬q x) ∧ Ext w wr) (fun i _ => l.length - (intOf i).toNat)
  case atStart => exact ⟨0, by omega, rfl, by simp, Ext.refl _⟩
  case round =>
    obtain ⟨k, hk, rfl, hr, hE⟩ := hrel
    have HR := Lib.hid hr
    clear hr
    by_cases hlt : k < l.length
    · obtain ⟨b, o, rfl, hc⟩ := (h.ext hE).at k hlt
      have hC := HF.out wr (.int .i64 l[k]) l[k] hE (List.getElem_mem hlt) rfl
      by_cases hq : q l[k]
      · have HC := Lib.hid (RetE.bt hq hC)
        have HQ := Lib.hid hq
        clear hC hq
        go_wp2_with fail
        refine HC.out.mono ?_
        rintro e W2 ⟨rfl, hE2⟩
        go_wp2
        go_ret
        exact ⟨k, rfl, ⟨fun _ => ⟨_, List.getElem_mem hlt, HQ.out⟩, fun _ => by omega⟩, hE.trans hE2⟩
      · have HC := Lib.hid (RetE.bf hq hC)
        have HQ := Lib.hid hq
        clear hC hq
        go_wp2_with fail
        refine HC.out.mono ?_
        rintro e W2 ⟨rfl, hE2⟩
        go_wp2
        go_roundw
        case rel => exact ⟨k + 1, by omega, by go_num, by
          rw [List.take_succ_eq_append_getElem hlt]
          intro x hx
          rcases List.mem_append.1 hx with h1 | h1
          · exact HR.out x h1
          · rw [List.mem_singleton.1 h1]; exact HQ.out, hE.trans hE2⟩
        case measure => simp [intOf]; omega
    · go_wp2
      go_ret
      exact ⟨-1, rfl, ⟨fun h => absurd h (by decide), fun ⟨x, hx, hqx⟩ => absurd hqx (HR.out x (by rwa [List.take_of_length_le (by omega)]))⟩, hE⟩

def PairV (_ : World) (v : Value) (x : Int × Int) : Prop := v = .agg #[.int .i64 x.1, .int .i64 x.2]

set_option maxHeartbeats 800000 in
theorem IndexFuncLists (p : Option Addr) (l : List (List Int)) (c g : Nat) (cap : Array Value) (w : World) (q : List Int → Prop) (hl : l.length ≤ 100000) (h : ListsAt w p l) (ha : Asks IntsV g cap w l q) :
    Calls Try.prog 94 #[.slice p l.length c, .func (.func g) #[] cap] w (IdxPost (∃ x ∈ l, q x) w) := by
  obtain ⟨hcall, hf⟩ := ha
  have HF := Lib.hid hf
  clear hf
  go_enter Try.func94, Try.ntmps94
  go_wp2
  go_loopw [8] (fun i wr => ∃ k : Nat, k ≤ l.length ∧ i = .int .i64 k ∧ (∀ x ∈ l.take k, ¬q x) ∧ Ext w wr) (fun i _ => l.length - (intOf i).toNat)
  case atStart => exact ⟨0, by omega, rfl, by simp, Ext.refl _⟩
  case round =>
    obtain ⟨k, hk, rfl, hr, hE⟩ := hrel
    have HR := Lib.hid hr
    clear hr
    by_cases hlt : k < l.length
    · obtain ⟨b, o, q', c', rfl, hc, hq'⟩ := (h.ext hE).at k hlt
      have hC := HF.out wr (.slice q' (l[k]).length c') l[k] hE (List.getElem_mem hlt) ⟨q', c', rfl, hq'⟩
      by_cases hq : q l[k]
      · have HC := Lib.hid (RetE.bt hq hC)
        have HQ := Lib.hid hq
        clear hC hq
        go_wp2_with fail
        refine HC.out.mono ?_
        rintro e W2 ⟨rfl, hE2⟩
        go_wp2
        go_ret
        exact ⟨k, rfl, ⟨fun _ => ⟨_, List.getElem_mem hlt, HQ.out⟩, fun _ => by omega⟩, hE.trans hE2⟩
      · have HC := Lib.hid (RetE.bf hq hC)
        have HQ := Lib.hid hq
        clear hC hq
        go_wp2_with fail
        refine HC.out.mono ?_
        rintro e W2 ⟨rfl, hE2⟩
        go_wp2
        go_roundw
        case rel => exact ⟨k + 1, by omega, by go_num, by
          rw [List.take_succ_eq_append_getElem hlt]
          intro x hx
          rcases List.mem_append.1 hx with h1 | h1
          · exact HR.out x h1
          · rw [List.mem_singleton.1 h1]; exact HQ.out, hE.trans hE2⟩
        case measure => simp [intOf]; omega
    · go_wp2
      go_ret
      exact ⟨-1, rfl, ⟨fun h => absurd h (by decide), fun ⟨x, hx, hqx⟩ => absurd hqx (HR.out x (by rwa [List.take_of_length_le (by omega)]))⟩, hE⟩

set_option maxHeartbeats 800000 in
theorem IndexFuncKeeps (p : Option Addr) (l : List (Int × Int)) (c g : Nat) (cap : Array Value) (w : World) (q : Int × Int → Prop) (hl : l.length ≤ 100000) (h : PairsAt w p l) (ha : Asks PairV g cap w l q) :
    Calls Try.prog 95 #[.slice p l.length c, .func (.func g) #[] cap] w (IdxPost (∃ x ∈ l, q x) w) := by
  obtain ⟨hcall, hf⟩ := ha
  have HF := Lib.hid hf
  clear hf
  go_enter Try.func95, Try.ntmps95
  go_wp2
  go_loopw [8] (fun i wr => ∃ k : Nat, k ≤ l.length ∧ i = .int .i64 k ∧ (∀ x ∈ l.take k, ¬q x) ∧ Ext w wr) (fun i _ => l.length - (intOf i).toNat)
  case atStart => exact ⟨0, by omega, rfl, by simp, Ext.refl _⟩
  case round =>
    obtain ⟨k, hk, rfl, hr, hE⟩ := hrel
    have HR := Lib.hid hr
    clear hr
    by_cases hlt : k < l.length
    · obtain ⟨b, o, rfl, hc, hd⟩ := (h.ext hE).at k hlt
      have hC := HF.out wr (.agg #[.int .i64 l[k].1, .int .i64 l[k].2]) l[k] hE (List.getElem_mem hlt) rfl
      by_cases hq : q l[k]
      · have HC := Lib.hid (RetE.bt hq hC)
        have HQ := Lib.hid hq
        clear hC hq
        go_wp2_with fail
        refine HC.out.mono ?_
        rintro e W2 ⟨rfl, hE2⟩
        go_wp2
        go_ret
        exact ⟨k, rfl, ⟨fun _ => ⟨_, List.getElem_mem hlt, HQ.out⟩, fun _ => by omega⟩, hE.trans hE2⟩
      · have HC := Lib.hid (RetE.bf hq hC)
        have HQ := Lib.hid hq
        clear hC hq
        go_wp2_with fail
        refine HC.out.mono ?_
        rintro e W2 ⟨rfl, hE2⟩
        go_wp2
        go_roundw
        case rel => exact ⟨k + 1, by omega, by go_num, by
          rw [List.take_succ_eq_append_getElem hlt]
          intro x hx
          rcases List.mem_append.1 hx with h1 | h1
          · exact HR.out x h1
          · rw [List.mem_singleton.1 h1]; exact HQ.out, hE.trans hE2⟩
        case measure => simp [intOf]; omega
    · go_wp2
      go_ret
      exact ⟨-1, rfl, ⟨fun h => absurd h (by decide), fun ⟨x, hx, hqx⟩ => absurd hqx (HR.out x (by rwa [List.take_of_length_le (by omega)]))⟩, hE⟩

set_option maxHeartbeats 400000 in
theorem ContainsFuncInt (p : Option Addr) (l : List Int) (c g : Nat) (cap : Array Value) (w : World) (q : Int → Prop) (hl : l.length ≤ 100000) (h : IntsAt w p l) (ha : Asks IntR g cap w l q) :
    Calls Try.prog 69 #[.slice p l.length c, .func (.func g) #[] cap] w (RetE (.bool (bP (∃ x ∈ l, q x))) w) := by
  have HC := Lib.hid (IndexFuncInt p l c g cap w q hl h ha)
  clear ha
  go_enter Try.func69, Try.ntmps69
  go_wp2_with fail
  refine HC.out.mono ?_
  rintro e W2 ⟨n, rfl, hn, hE2⟩
  have HN := Lib.hid hn
  clear hn
  go_wp2
  go_ret
  exact RetE.of hE2 (by rw [← HN.out]; simp)

set_option maxHeartbeats 400000 in
theorem ContainsFuncLists (p : Option Addr) (l : List (List Int)) (c g : Nat) (cap : Array Value) (w : World) (q : List Int → Prop) (hl : l.length ≤ 100000) (h : ListsAt w p l) (ha : Asks IntsV g cap w l q) :
    Calls Try.prog 75 #[.slice p l.length c, .func (.func g) #[] cap] w (RetE (.bool (bP (∃ x ∈ l, q x))) w) := by
  have HC := Lib.hid (IndexFuncLists p l c g cap w q hl h ha)
  clear ha
  go_enter Try.func75, Try.ntmps75
  go_wp2_with fail
  refine HC.out.mono ?_
  rintro e W2 ⟨n, rfl, hn, hE2⟩
  have HN := Lib.hid hn
  clear hn
  go_wp2
  go_ret
  exact RetE.of hE2 (by rw [← HN.out]; simp)

set_option maxHeartbeats 400000 in
theorem ContainsFuncKeeps (p : Option Addr) (l : List (Int × Int)) (c g : Nat) (cap : Array Value) (w : World) (q : Int × Int → Prop) (hl : l.length ≤ 100000) (h : PairsAt w p l) (ha : Asks PairV g cap w l q) :
    Calls Try.prog 76 #[.slice p l.length c, .func (.func g) #[] cap] w (RetE (.bool (bP (∃ x ∈ l, q x))) w) := by
  have HC := Lib.hid (IndexFuncKeeps p l c g cap w q hl h ha)
  clear ha
  go_enter Try.func76, Try.ntmps76
  go_wp2_with fail
  refine HC.out.mono ?_
  rintro e W2 ⟨n, rfl, hn, hE2⟩
  have HN := Lib.hid hn
  clear hn
  go_wp2
  go_ret
  exact RetE.of hE2 (by rw [← HN.out]; simp)
end Go.Proofs.Ytpgjkmjejpfkmaa
