/- The walk of the reference's Earns. -/
import Derived.Test.YtpgjkmjejpfkmaaS07a
import Derived.Test.YtpgjkmjejpfkmaaR07d
import Derived.Deep.RegionHeld3
namespace Go.Proofs.Ytpgjkmjejpfkmaa
open Go.RowKit

/-- what a plan earns in each of the first boxes -/
def rL (S : Swap) (L : List (List Int)) (n : Nat) : List Int := (List.range n).map fun k => earnsIn S k (L.getD k [])
theorem rL_succ (S : Swap) (L : List (List Int)) (n : Nat) : rL S L (n + 1) = rL S L n ++ [earnsIn S n (L.getD n [])] := by simp [rL, List.range_succ]
theorem rL_len (S : Swap) (L : List (List Int)) (n : Nat) : (rL S L n).length = n := by simp [rL]

def rEarnsPost (S : Swap) (L : List (List Int)) (w : World) (e : Ending) (w' : World) : Prop :=
  (Valid S ∧ IsPlan S L ∧ ∃ v, e = .returned (.tuple #[v, .int .i64 (earnsAll S L), .int .i64 0]) ∧ IntsV w' v (rL S L S.boxes.length) ∧ Ext w w') ∨
  (Valid S ∧ ¬IsPlan S L ∧ e = .returned (.tuple #[.slice none 0 0, .int .i64 0, .int .i64 1]) ∧ Ext w w') ∨
  (¬Valid S ∧ e = .returned (.tuple #[.slice none 0 0, .int .i64 0, .int .i64 70]) ∧ Ext w w')

def StpR (a b : World) : Prop := Ext a b
theorem StpR.out {a b : World} (h : StpR a b) : Ext a b := h
theorem StpR.mk {a b : World} (h : Ext a b) : StpR a b := h
theorem grown_ext {W x w4 : World} {u : Value} {e : TypeId} {size n : Nat} {xs : List Value} {w0 : World} (hg : x.grownBy w4 u.ownBlock) (hE : Ext W x) (hu : w0.ownsRow W.heap.size e size u n xs) : StpR W w4 :=
  Below.grown hE hg hE.size (fun k hk => (hu.lt k hk).1)
theorem hnews1 (w : World) (v : Value) {t : TypeId} : ∀ j u, [v][j]? = some u → (w.alloc (.cells #[v] t)).cell? ((⟨w.heap.size, 0, none⟩ : Addr).add j) = some u := by
  intro j u hj
  match j, hj with
  | 0, hj => simp at hj; subst hj; simp [Addr.add]
theorem one1 (n : Int) : ∀ u ∈ [Value.int .i64 n], u.oneCell' = true := by
  intro u hu; simp at hu; subst hu; rfl
theorem le1 {m k n : Nat} (h : m = k) (hk : k < n) (hn : n ≤ 3) : m + 1 ≤ maxLen := by unfold maxLen; omega
theorem le2 {m k n : Nat} (h : m = k) (hk : k < n) (hn : n ≤ 3) : (m + 1) * 8 ≤ 140737488355328 := by omega

set_option maxRecDepth 20000 in
set_option maxHeartbeats 3200000 in
theorem rEarns07 (v : Value) (S : Swap) (q : Option Addr) (L : List (List Int)) (c : Nat) (w : World) (hv : SwapV w v S) (hM : Modest S) (hq : ListsAt w q L) (hl : L.length ≤ 100000)
    (hr : ∀ i (h : i < L.length), L[i].length ≤ 100000) :
    Calls Try.prog 36 #[v, .slice q L.length c] w (rEarnsPost S L w) := by
  have HV := Lib.hid hv
  have HQ := Lib.hid hq
  have HR := Lib.hid hr
  obtain ⟨p0, c0, p1, c1, p2, c2, p3, c3, rfl, h0, h1, h2, h3⟩ := hv
  clear h0 h1 h2 h3 hq hr
  go_enter Try.func36, Try.ntmps36
  go_upto_region 1 with (fail)
  have hn := heap_new w (.cells #[.slice p0 S.boxes.length c0, .slice p1 S.stock.length c1, .slice p2 S.earn.length c2, .slice p3 S.keeps.length c3, .int .i64 S.changes] 26)
  obtain ⟨W, hW⟩ : ∃ W, W = w.alloc (.cells #[.slice p0 S.boxes.length c0, .slice p1 S.stock.length c1, .slice p2 S.earn.length c2, .slice p3 S.keeps.length c3, .int .i64 S.changes] 26) := ⟨_, rfl⟩
  have hE : Ext w W := by rw [hW]; exact Ext.alloc (Ext.refl w) _
  rw [← hW] at hn ⊢
  have q0 := ExtW.cell (v := .slice p0 S.boxes.length c0) (cell_of_heap hn 0)
  have q1 := ExtW.cell (v := .slice p1 S.stock.length c1) (cell_of_heap hn 1)
  have q2 := ExtW.cell (v := .slice p2 S.earn.length c2) (cell_of_heap hn 2)
  have q3 := ExtW.cell (v := .slice p3 S.keeps.length c3) (cell_of_heap hn 3)
  have q4 := ExtW.cell (v := .int .i64 S.changes) (cell_of_heap hn 4)
  have HK0 := fun x : ExtW W => ExtW.call (rCheck07 _ S x.w (SwapV.mono _ _ _ _ (hE.trans x.h) HV.out) hM)
  have HI0 := fun x : ExtW W => ExtW.call (IsPlan07 _ S q L c x.w (SwapV.mono _ _ _ _ (hE.trans x.h) HV.out) hM (HQ.out.ext (hE.trans x.h)) hl HR.out)
  obtain ⟨x0, hx0⟩ := ExtW.of (Ext.refl W)
  clear hW hn
  conv => arg 5; rw [hx0]
  clear hx0
  by_cases hS : Valid S
  case neg =>
    rw [chk_f hS] at HK0
    have HK := Lib.hid HK0
    have HS := Lib.hid hS
    clear HK0 hS HI0
    go_wp2_with fail
    refine (HK.out _).mono ?_
    rintro e _ ⟨rfl, x1, rfl⟩
    go_wp2
    go_ret3
    exact Or.inr (Or.inr ⟨HS.out, rfl, hE.trans x1.h⟩)
  rw [chk_t hS] at HK0
  have HK := Lib.hid HK0
  have HS := Lib.hid hS
  clear HK0
  by_cases hP : IsPlan S L
  case neg =>
    rw [bP_f hP] at HI0
    have HI := Lib.hid HI0
    have HP := Lib.hid hP
    clear HI0 hP hS
    go_wp2_with fail
    refine (HK.out _).mono ?_
    rintro e _ ⟨rfl, x1, rfl⟩
    go_wp2_with fail
    refine (HI.out _).mono ?_
    rintro e _ ⟨rfl, x2, rfl⟩
    go_wp2
    go_ret3
    exact Or.inr (Or.inl ⟨HS.out, HP.out, rfl, hE.trans x2.h⟩)
  rw [bP_t hP] at HI0
  have HI := Lib.hid HI0
  have HP := Lib.hid hP
  have hlen := hP.1
  have hb3 := hS.boxes
  have hl3 : L.length ≤ 3 := by omega
  have HEA := Lib.hid (fun (x : World) (hx : Ext W x) => EarnsAll07 _ S q L c x (SwapV.mono _ _ _ _ (hE.trans hx) HV.out) hS (HQ.out.ext (hE.trans hx)) (by omega) (fun i h => by have := hP.row_le hS i h; omega) (fun i h t ht => (hP.2 i h).2.mem t ht))
  have HEI := Lib.hid (fun (x : World) (hx : Ext W x) (i : Nat) (h : i < L.length) (q' : Option Addr) (c' : Nat) (hq' : IntsAt x q' L[i]) =>
    EarnsIn07 _ S i q' L[i] c' x (SwapV.mono _ _ _ _ (hE.trans hx) HV.out) hS hq' (by have := hP.row_le hS i h; omega) (by omega) (fun t ht => (hP.2 i h).2.mem t ht))
  have HLEN := Lib.hid hlen
  have HQW := Lib.hid (HQ.out.ext hE)
  obtain ⟨i0, hi, hz0, hz1, hz2⟩ := info_parts info_a
  clear HI0 hP hS hlen
  go_wp2_with fail
  refine (HK.out _).mono ?_
  rintro e _ ⟨rfl, x1, rfl⟩
  go_wp2_with fail
  refine (HI.out _).mono ?_
  rintro e _ ⟨rfl, x2, rfl⟩
  go_wp2
  go_loopw [4, 8] (fun u i wr => ∃ k : Nat, k ≤ L.length ∧ i = .int .i64 k ∧ ∃ x : ExtW W, wr = x.w ∧ x.w.ownsRow W.heap.size 3 1 u (rL S L k).length (intVs (rL S L k))) (fun _ i _ => L.length - (intOf i).toNat)
  case atStart => exact ⟨0, by omega, rfl, x2, rfl, World.ownsRow_nil _ _ _ _⟩
  case round =>
    obtain ⟨k, hk, rfl, x, rfl, hown⟩ := hrel
    by_cases hlt : k < L.length
    · obtain ⟨b, o, q', c', rfl, hc, hq'⟩ := HQW.out.at k hlt
      have HC := Lib.hid (fun (x : World) (hx : Ext W x) => HEI.out x hx k hlt q' c' (hq'.ext hx))
      have HEX := Lib.hid (getD_of_lt L [] k hlt)
      have hS0 := Lib.hid (fun (z : World) (hz : Ext W z) => (⟨q0 ⟨z, hz⟩, q1 ⟨z, hz⟩, q2 ⟨z, hz⟩, q3 ⟨z, hz⟩, q4 ⟨z, hz⟩, ExtW.cell hc ⟨z, hz⟩⟩ :
        z.cell? ⟨w.heap.size, 0, none⟩ = some (.slice p0 S.boxes.length c0) ∧ z.cell? ⟨w.heap.size, 1, none⟩ = some (.slice p1 S.stock.length c1) ∧ z.cell? ⟨w.heap.size, 2, none⟩ = some (.slice p2 S.earn.length c2) ∧ z.cell? ⟨w.heap.size, 3, none⟩ = some (.slice p3 S.keeps.length c3) ∧ z.cell? ⟨w.heap.size, 4, none⟩ = some (.int .i64 S.changes) ∧ z.cell? ⟨b, o + k, none⟩ = some (.slice q' L[k].length c')))
      have HO := Lib.hid hown
      have hln := rL_len S L k
      have hsz := x.h.size
      have HX := Lib.hid x.h
      obtain ⟨ev, hev⟩ : ∃ ev, ev = earnsIn S k L[k] := ⟨_, rfl⟩
      have HEV := Lib.hid hev
      rw [← hev] at HC
      clear hown hc hq' hev
      go_upto_region 9 with (fail)
      go_region_held3 (fun z => z.cell? ⟨w.heap.size, 0, none⟩ = some (.slice p0 S.boxes.length c0) ∧ z.cell? ⟨w.heap.size, 1, none⟩ = some (.slice p1 S.stock.length c1) ∧ z.cell? ⟨w.heap.size, 2, none⟩ = some (.slice p2 S.earn.length c2) ∧ z.cell? ⟨w.heap.size, 3, none⟩ = some (.slice p3 S.keeps.length c3) ∧ z.cell? ⟨w.heap.size, 4, none⟩ = some (.int .i64 S.changes) ∧ z.cell? ⟨b, o + k, none⟩ = some (.slice q' L[k].length c'))
        ((refine hS0.out _ ?_; repeat (first | exact HX.out | exact StpR.out (by assumption) | refine Ext.alloc ?_ _ | refine Ext.drew ?_ | refine Ext.trans ?_ (StpR.out (by assumption)))))
        (first
          | (go_at_call 60; refine (HC.out _ (by repeat (first | exact HX.out | exact StpR.out (by assumption) | refine Ext.alloc ?_ _ | refine Ext.drew ?_ | refine Ext.trans ?_ (StpR.out (by assumption))))).mono ?_; rintro e w1 ⟨rfl, hE1⟩; have hS1 := StpR.mk hE1; clear hE1)
          | (refine step_append_lies _ rfl (.tmp 24) (.tmp 32) 23 rfl W.heap.size 3 i0 (.int .i64 0) 1 8 Try.underlying23 hi hz0 hz1 hz2 rfl (by decide) _ (rL S L k).length _ rfl (ownsRow_ext HO.out (by repeat (first | exact Ext.refl _ | refine Ext.alloc ?_ _ | refine Ext.drew ?_ | refine Ext.trans ?_ (StpR.out (by assumption))))) ⟨_, 0, none⟩ 1 1 [.int .i64 ev] rfl rfl ?_ ?_ (by decide) ?_ ?_ ?_ _ rfl ?_; exact hnews1 _ _; exact one1 _; exact le1 hln hlt hl3; exact le2 hln hlt hl3; exact Ext.size (by repeat (first | exact HX.out | exact StpR.out (by assumption) | refine Ext.alloc ?_ _ | refine Ext.drew ?_ | refine Ext.trans ?_ (StpR.out (by assumption)))); intro g4 cap4 w4 hown4 hgr4 hat4 hlt4; have HO4 := Lib.hid hown4; have hW4 : StpR W w4 := grown_ext hgr4 (by repeat (first | exact HX.out | exact StpR.out (by assumption) | refine Ext.alloc ?_ _ | refine Ext.drew ?_ | refine Ext.trans ?_ (StpR.out (by assumption)))) HO.out; clear hown4 hgr4 hat4 hlt4))
      all_goals
        obtain ⟨x4, rfl⟩ := ExtW.of hW4.out
        go_wp2
        go_roundw
        case rel => exact ⟨k + 1, by omega, by go_num, x4, rfl, by rw [rL_succ, intVs_snoc, HEX.out, ← HEV.out, List.length_append]; simpa only [rL_len, List.length_cons, List.length_nil] using HO4.out⟩
        case measure => simp [intOf]; omega
    · obtain rfl : k = L.length := by omega
      have HO := Lib.hid hown
      clear hown
      go_wp2_with fail
      refine (HEA.out x.w x.h).mono ?_
      rintro e w2 ⟨rfl, hE2⟩
      go_wp2
      go_ret3
      refine Or.inl ⟨HS.out, HP.out, _, rfl, ?_, hE.trans (x.h.trans hE2)⟩
      rw [← HLEN.out]
      exact IntsV.mono _ _ _ _ hE2 (ownsRow_ints HO.out)
end Go.Proofs.Ytpgjkmjejpfkmaa
