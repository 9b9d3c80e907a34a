/- The walks of the reference's ChangesOf, count, AllChanges. -/
import Derived.Test.YtpgjkmjejpfkmaaL07i
namespace Go.Proofs.Ytpgjkmjejpfkmaa
open Go.RowKit

/-- how many titles are changed -/
def chOf (now l : List Int) : Nat := l.countP fun t => !inL now t
theorem chOf_snoc (now l : List Int) (t : Int) : chOf now (l ++ [t]) = chOf now l + (if t ∈ now then 0 else 1) := by
  unfold chOf
  rw [List.countP_append]
  by_cases h : t ∈ now
  · simp [inL, h]
  · simp [inL, h]
theorem chOf_le (now l : List Int) : chOf now l ≤ l.length := List.countP_le_length
/-- in how many lists a title is -/
def cntL (L : List (List Int)) (t : Int) : Nat := L.countP fun l => inL l t
theorem cntL_snoc (L : List (List Int)) (l : List Int) (t : Int) : cntL (L ++ [l]) t = cntL L t + (if t ∈ l then 1 else 0) := by
  unfold cntL
  rw [List.countP_append]
  by_cases h : t ∈ l
  · simp [inL, h]
  · simp [inL, h]
theorem cntL_le (L : List (List Int)) (t : Int) : cntL L t ≤ L.length := List.countP_le_length

set_option maxHeartbeats 800000 in
theorem ChangesOf07 (p q : Option Addr) (a b : List Int) (c d : Nat) (w : World) (hl : a.length ≤ 100000) (hm : b.length ≤ 100000) (ha : IntsAt w p a) (hb : IntsAt w q b) :
    Calls Try.prog 83 #[.slice p a.length c, .slice q b.length d] w (RetQ (.int .i64 (chOf a b)) w) := by
  go_enter Try.func83, Try.ntmps83
  go_wp2
  go_loopw [5, 6] (fun n i wr => ∃ k : Nat, k ≤ b.length ∧ i = .int .i64 k ∧ n = .int .i64 (chOf a (b.take k)) ∧ Qt w wr) (fun _ i _ => b.length - (intOf i).toNat)
  case atStart => exact ⟨0, by omega, rfl, rfl, Qt.refl _⟩
  case round =>
    obtain ⟨k, hk, rfl, rfl, hQ⟩ := hrel
    have hle := chOf_le a (b.take k)
    have hle2 : (b.take k).length ≤ 100000 := by rw [List.length_take]; omega
    by_cases hlt : k < b.length
    · obtain ⟨bb, o, rfl, hc⟩ := (hb.ext hQ.ext).at k hlt
      have hsn := chOf_snoc a (b.take k) b[k]
      rw [← List.take_succ_eq_append_getElem hlt] at hsn
      have HC := rin07 p a c b[k] wr hl (ha.ext hQ.ext)
      obtain ⟨m, hmm⟩ : ∃ m, m = chOf a (b.take k) := ⟨_, rfl⟩
      rw [← hmm] at hle hsn ⊢
      clear hmm
      by_cases hin : b[k] ∈ a
      · have HC2 := Lib.hid (RetQ.bt hin HC)
        rw [if_pos hin] at hsn
        have HSN := Lib.hid hsn
        clear hsn hin HC
        go_wp2_with fail
        refine HC2.out.mono ?_
        rintro e w' ⟨rfl, m2, rfl⟩
        go_wp2
        go_roundw
        case rel => exact ⟨k + 1, by omega, by go_num, by rw [HSN.out]; rfl, (by repeat (first | exact Qt.refl _ | assumption | refine Qt.drewN ?_ _ | refine Qt.drew ?_))⟩
        case measure => simp [intOf]; omega
      · have HC2 := Lib.hid (RetQ.bf hin HC)
        rw [if_neg hin] at hsn
        have HSN := Lib.hid hsn
        clear hsn hin HC
        go_wp2_with fail
        refine HC2.out.mono ?_
        rintro e w' ⟨rfl, m2, rfl⟩
        go_wp2
        go_roundw
        case rel => exact ⟨k + 1, by omega, by go_num, by rw [HSN.out]; go_num, (by repeat (first | exact Qt.refl _ | assumption | refine Qt.drewN ?_ _ | refine Qt.drew ?_))⟩
        case measure => simp [intOf]; omega
    · obtain rfl : k = b.length := by omega
      rw [List.take_length]
      go_wp2
      go_ret
      exact RetQ.fin (by repeat (first | exact Qt.refl _ | assumption | refine Qt.drewN ?_ _ | refine Qt.drew ?_)) rfl

set_option maxHeartbeats 800000 in
theorem count07 (p : Option Addr) (L : List (List Int)) (c : Nat) (t : Int) (w : World) (hl : L.length ≤ 100000) (hr : ∀ i (h : i < L.length), L[i].length ≤ 100000) (ha : ListsAt w p L) :
    Calls Try.prog 84 #[.slice p L.length c, .int .i64 t] w (RetQ (.int .i64 (cntL L t)) w) := by
  have HR := Lib.hid hr
  clear hr
  go_enter Try.func84, Try.ntmps84
  go_wp2
  go_loopw [5, 6] (fun n i wr => ∃ k : Nat, k ≤ L.length ∧ i = .int .i64 k ∧ n = .int .i64 (cntL (L.take k) t) ∧ Qt w wr) (fun _ i _ => L.length - (intOf i).toNat)
  case atStart => exact ⟨0, by omega, rfl, rfl, Qt.refl _⟩
  case round =>
    obtain ⟨k, hk, rfl, rfl, hQ⟩ := hrel
    have hle := cntL_le (L.take k) t
    have hle2 : (L.take k).length ≤ 100000 := by rw [List.length_take]; omega
    by_cases hlt : k < L.length
    · obtain ⟨bb, o, q, cq, rfl, hc, hq⟩ := (ha.ext hQ.ext).at k hlt
      have hsn := cntL_snoc (L.take k) L[k] t
      rw [← List.take_succ_eq_append_getElem hlt] at hsn
      have HC := rin07 q L[k] cq t wr (HR.out k hlt) hq
      obtain ⟨m, hmm⟩ : ∃ m, m = cntL (L.take k) t := ⟨_, rfl⟩
      rw [← hmm] at hle hsn ⊢
      clear hmm
      by_cases hin : t ∈ L[k]
      · have HC2 := Lib.hid (RetQ.bt hin HC)
        rw [if_pos hin] at hsn
        have HSN := Lib.hid hsn
        clear hsn hin HC hq
        go_wp2_with fail
        refine HC2.out.mono ?_
        rintro e w' ⟨rfl, m2, rfl⟩
        go_wp2
        go_roundw
        case rel => exact ⟨k + 1, by omega, by go_num, by rw [HSN.out]; go_num, (by repeat (first | exact Qt.refl _ | assumption | refine Qt.drewN ?_ _ | refine Qt.drew ?_))⟩
        case measure => simp [intOf]; omega
      · have HC2 := Lib.hid (RetQ.bf hin HC)
        rw [if_neg hin] at hsn
        have HSN := Lib.hid hsn
        clear hsn hin HC hq
        go_wp2_with fail
        refine HC2.out.mono ?_
        rintro e w' ⟨rfl, m2, rfl⟩
        go_wp2
        go_roundw
        case rel => exact ⟨k + 1, by omega, by go_num, by rw [HSN.out]; rfl, (by repeat (first | exact Qt.refl _ | assumption | refine Qt.drewN ?_ _ | refine Qt.drew ?_))⟩
        case measure => simp [intOf]; omega
    · obtain rfl : k = L.length := by omega
      rw [List.take_length]
      go_wp2
      go_ret
      exact RetQ.fin (by repeat (first | exact Qt.refl _ | assumption | refine Qt.drewN ?_ _ | refine Qt.drew ?_)) rfl

def chTo (B L : List (List Int)) : Nat → Nat
  | 0 => 0
  | k + 1 => chTo B L k + chOf (B.getD k []) (L.getD k [])
theorem chTo_le (B L : List (List Int)) (hr : ∀ i (h : i < L.length), L[i].length ≤ 40) : ∀ k, k ≤ L.length → chTo B L k ≤ 40 * k
  | 0, _ => Nat.le_refl _
  | k + 1, h => by
    have h1 := chTo_le B L hr k (by omega)
    have h2 := chOf_le (B.getD k []) (L.getD k [])
    have h3 := hr k (by omega)
    rw [getD_of_lt L _ _ (by omega : k < L.length)] at h2
    have h4 : chTo B L (k + 1) = chTo B L k + chOf (B.getD k []) L[k] := by rw [chTo, getD_of_lt L _ _ (by omega : k < L.length)]
    omega
/-- how many titles a plan changes -/
def chAll (B L : List (List Int)) : Nat := chTo B L L.length

set_option maxHeartbeats 1600000 in
theorem AllChanges07 (v : Value) (S : Swap) (q : Option Addr) (l : List (List Int)) (c : Nat) (w : World) (hv : SwapV w v S) (hM : Modest S) (hq : ListsAt w q l) (hl : l.length ≤ S.boxes.length) (hl2 : l.length ≤ 40)
    (hr : ∀ i (h : i < l.length), l[i].length ≤ 40) :
    Calls Try.prog 45 #[v, .slice q l.length c] w (RetE (.int .i64 (chAll S.boxes l)) w) := by
  obtain ⟨p0, c0, p1, c1, p2, c2, p3, c3, rfl, h0, -⟩ := hv
  have HB := Lib.hid (fun k (h : k ≤ l.length) => chTo_le S.boxes l hr k h)
  go_enter Try.func45, Try.ntmps45
  go_upto_region 1 with (fail)
  have hn := heap_new w (.cells #[.slice p0 S.boxes.length c0, .slice p1 S.stock.length c1, .slice p2 S.earn.length c2, .slice p3 S.keeps.length c3, .int .i64 S.changes] 26)
  obtain ⟨W, hW⟩ : ∃ W, W = w.alloc (.cells #[.slice p0 S.boxes.length c0, .slice p1 S.stock.length c1, .slice p2 S.earn.length c2, .slice p3 S.keeps.length c3, .int .i64 S.changes] 26) := ⟨_, rfl⟩
  have hE : Ext w W := by rw [hW]; exact Ext.alloc (Ext.refl w) _
  rw [← hW] at hn ⊢
  have r0 := ExtW.cell (v := .slice p0 S.boxes.length c0) (cell_of_heap hn 0)
  have kq := hq.ext hE
  have k0 := h0.ext hE
  obtain ⟨x0, hx0⟩ := ExtW.of (Ext.refl W)
  clear hW hn hq h0
  conv => arg 5; rw [hx0]
  go_wp2
  go_loopw [5, 6] (fun n i wr => ∃ k : Nat, k ≤ l.length ∧ i = .int .i64 k ∧ n = .int .i64 (chTo S.boxes l k) ∧ ∃ x : ExtW W, wr = x.w) (fun _ i _ => l.length - (intOf i).toNat)
  case atStart => exact ⟨0, by omega, rfl, rfl, x0, rfl⟩
  case round =>
    obtain ⟨k, hk, rfl, rfl, x, rfl⟩ := hrel
    have e2 := HB.out k hk
    by_cases hlt : k < l.length
    · obtain ⟨b2, o2, q', c', rfl, hc2, hq'⟩ := kq.at k hlt
      obtain ⟨b3, o3, q3, c3', rfl, hc3, hq3⟩ := k0.at k (by omega)
      have hsn : chTo S.boxes l (k+1) = chTo S.boxes l k + chOf S.boxes[k] l[k] := by rw [chTo, getD_of_lt _ _ _ hlt, getD_of_lt _ _ _ (by omega : k < S.boxes.length)]
      have f1 := HB.out (k+1) hlt
      have HSN := Lib.hid hsn
      rw [hsn] at f1
      have s2 := ExtW.cell hc2
      have s3 := ExtW.cell hc3
      have hb2 := hM.box k (by omega)
      have hr2 := hr k hlt
      have HCC := Lib.hid (fun x : ExtW W => ExtW.call (RetQ.e (ChangesOf07 q3 q' S.boxes[k] l[k] c3' c' x.w hb2 (by omega) (hq3.ext x.h) (hq'.ext x.h))))
      obtain ⟨a, ha⟩ : ∃ a, a = chTo S.boxes l k := ⟨_, rfl⟩
      obtain ⟨z, hz⟩ : ∃ z, z = chOf S.boxes[k] l[k] := ⟨_, rfl⟩
      rw [← ha, ← hz] at HSN f1
      rw [← ha] at e2
      rw [← hz] at HCC
      rw [← ha]
      have hw : IntKind.i64.wrap ((a : Int) + (z : Int)) = (a : Int) + (z : Int) := IntWalk.i64_in _ (by omega)
      obtain ⟨n2, hn2⟩ : ∃ n2, n2 = S.boxes[k].length := ⟨_, rfl⟩
      obtain ⟨n, hn⟩ : ∃ n, n = l[k].length := ⟨_, rfl⟩
      rw [← hn, ← hn2] at HCC
      rw [← hn] at s2
      rw [← hn2] at s3
      clear hsn hc2 hc3 ha hz HB hq' hq3 hn hn2 hb2 hr2 hr
      go_upto_region 5 with (fail)
      refine wp_region_extW (by kernel_rfl) (by kernel_rfl) ?_
      repeat (go_big_quiet_step ((go_at_call 83; exact HCC.out _)))
      refine wpQuiet_nil ?_
      rintro _ ⟨x2, rfl⟩
      go_wp2
      go_roundw
      case rel => exact ⟨k + 1, by omega, by go_num, by rw [HSN.out]; go_num, x2, rfl⟩
      case measure => simp [intOf]; omega
    · obtain rfl : k = l.length := by omega
      go_wp2
      go_ret
      exact RetE.fin (hE.trans x.h) rfl
end Go.Proofs.Ytpgjkmjejpfkmaa
