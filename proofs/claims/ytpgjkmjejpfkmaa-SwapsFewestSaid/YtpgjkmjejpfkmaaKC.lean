/- The walks of the reference's best and Best. The walks of the reference's Best and Fewest. The walk of the reference's Fair. The walk of the reference's Always. -/
import Derived.Test.YtpgjkmjejpfkmaaKA
import Derived.Test.YtpgjkmjejpfkmaaKB
namespace Go.Proofs.Ytpgjkmjejpfkmaa
open Go.RowKit

/-- a list of plans as a reader sees it -/
def PlansAt (w : World) (q : Option Addr) (Ls : List (List (List Int))) : Prop :=
  ∀ i (h : i < Ls.length), ∃ b o p c, q = some ⟨b, o, none⟩ ∧ w.cell? ⟨b, o + i, none⟩ = some (.slice p Ls[i].length c) ∧ ListsAt w p Ls[i]
theorem PlansAt.ext {w w' : World} {q : Option Addr} {Ls : List (List (List Int))} (h : PlansAt w q Ls) (hE : Ext w w') : PlansAt w' q Ls := by
  intro i hi
  obtain ⟨b, o, p, c, hq, hc, hl⟩ := h i hi
  exact ⟨b, o, p, c, hq, hE.cell hc, hl.ext hE⟩
theorem FitV.plans {w : World} {B : Nat} {v : Value} {vs : List Value} {Ls : List (List (List Int))} {r : Option Nat} (h : FitV w B v vs Ls r) : ∃ q cap, v = .slice q Ls.length cap ∧ PlansAt w q Ls := by
  obtain ⟨q, cap, hv⟩ := h.slice
  refine ⟨q, cap, by rw [hv, h.len], fun i hi => ?_⟩
  obtain ⟨b, c', he, hc⟩ := ownsRow_at h.out i (by have := h.len; omega)
  obtain ⟨p, c, h1, h2⟩ := h.oth i hi
  rw [hv] at he
  cases he
  exact ⟨b, 0, p, c, rfl, by rw [Nat.zero_add, hc, h1], h2.lists⟩
/-- all plans that fit -/
theorem fitAll07 (v : Value) (S : Swap) (w : World) (hv : SwapV w v S) (hS : ValidE S) :
    Calls Try.prog 62 #[v, .slice none 0 0] w (fun e w' => ∃ q cap, e = .returned (.slice q (fitA S).length cap) ∧ Ext w w' ∧ PlansAt w' q (fitA S)) := by
  refine (fitting07 S hS S.boxes.length [] (by simp) (fun i h => absurd h (by simp)) v none 0 w hv (fun i h => absurd h (by simp))).mono ?_
  rintro e w' ⟨u, vs, rfl, hE, hF⟩
  obtain ⟨q, cap, rfl, hp⟩ := (hF none (fun b hb => by cases hb) (fun i h => absurd h (by simp))).plans
  exact ⟨q, cap, rfl, hE, hp⟩
/-- plans, all of them with rows of titles -/
structure Ps (S : Swap) (Ls : List (List (List Int))) : Prop where
  len : ∀ i (h : i < Ls.length), Ls[i].length = S.boxes.length
  row : ∀ i (h : i < Ls.length) j (hj : j < Ls[i].length), Ls[i][j].length ≤ 3
  mem : ∀ i (h : i < Ls.length) j (hj : j < Ls[i].length), ∀ t ∈ Ls[i][j], 0 ≤ t ∧ t ≤ (S.stock.length : Int) - 1
  all : Ls.length ≤ 216 ^ 3
theorem ps_fit {S : Swap} (hS : ValidE S) : Ps S (fitA S) := by
  have hP := fun i (h : i < (fitA S).length) => ((mem_fitA (fitA S)[i]).1 (List.getElem_mem h)).1
  refine ⟨fun i h => (hP i h).1, fun i h j hj => ?_, fun i h j hj t ht => ((hP i h).2 j hj).2.mem t ht, ?_⟩
  · have hj' : j < S.boxes.length := by rw [← (hP i h).1]; exact hj
    rw [((hP i h).2 j hj).1, getD_of_lt _ _ _ hj']
    exact (hS.box j hj').1
  · refine Nat.le_trans (fitL_len S hS.stock (fun i h => (hS.box i h).1) _ _) ?_
    exact Nat.pow_le_pow_right (n := 216) (by decide) hS.boxes
theorem earnsAll_bde {S : Swap} (hS : ValidE S) {L : List (List Int)} (h1 : L.length = S.boxes.length) (h2 : ∀ j (hj : j < L.length), L[j].length ≤ 3) : 0 ≤ earnsAll S L ∧ earnsAll S L ≤ 119880 := by
  have h := earnsTo_bde hS L (fun i hi => by have := h2 i hi; omega) L.length (Nat.le_refl _)
  have hb := hS.boxes
  have e : earnsAll S L = earnsTo S L L.length := rfl
  rw [e]
  omega
theorem maxE_bde {S : Swap} (hS : ValidE S) {Ls : List (List (List Int))} (hP : Ps S Ls) (k : Nat) : 0 ≤ maxE S (Ls.take k) ∧ maxE S (Ls.take k) ≤ 119880 := by
  refine ⟨(maxE_ge S _).1, maxE_le S _ _ (by omega) fun L hL => ?_⟩
  obtain ⟨i, hi, rfl⟩ := List.getElem_of_mem (List.mem_of_mem_take hL)
  exact (earnsAll_bde hS (hP.len i hi) (hP.row i hi)).2

theorem max_if (a z : Int) : (if a < z then z else a) = max a z := by rw [Int.max_def]; split <;> split <;> omega
theorem min_if (a z : Int) : (if z < a then z else a) = min a z := by rw [Int.min_def]; split <;> split <;> omega

set_option maxRecDepth 100000 in
set_option maxHeartbeats 1600000 in
theorem rbest07 (v : Value) (S : Swap) (q : Option Addr) (Ls : List (List (List Int))) (c : Nat) (w : World) (hv : SwapV w v S) (hS : ValidE S) (hq : PlansAt w q Ls) (hP : Ps S Ls) :
    Calls Try.prog 65 #[v, .slice q Ls.length c] w (RetE (.int .i64 (maxE S Ls)) w) := by
  have HV := Lib.hid hv
  have HQ := Lib.hid hq
  have HB := Lib.hid (fun k => maxE_bde hS hP k)
  have HEB := Lib.hid (fun k (h : k < Ls.length) => earnsAll_bde hS (hP.len k h) (hP.row k h))
  have HC := Lib.hid (fun (w' : World) (hE : Ext w w') k (h : k < Ls.length) p c' (hp : ListsAt w' p Ls[k]) => EarnsAll07e v S p Ls[k] c' w' (SwapV.mono _ _ _ _ hE hv) hS hp (by have := hP.len k h; omega) (fun i hi => by have := hP.row k h i hi; omega) (hP.mem k h))
  have hall := hP.all
  obtain ⟨p0, c0, p1, c1, p2, c2, p3, c3, rfl, -⟩ := hv
  clear hq hS hP
  go_enter Try.func65, Try.ntmps65
  go_upto_region 1 with (fail)
  have hn := heap_new w (.cells #[.slice p0 S.boxes.length c0, .slice p1 S.stock.length c1, .slice p2 S.earn.length c2, .slice p3 S.keeps.length c3, .int .i64 S.changes] 26)
  obtain ⟨W, hW⟩ : ∃ W, W = w.alloc (.cells #[.slice p0 S.boxes.length c0, .slice p1 S.stock.length c1, .slice p2 S.earn.length c2, .slice p3 S.keeps.length c3, .int .i64 S.changes] 26) := ⟨_, rfl⟩
  have hE : Ext w W := by rw [hW]; exact Ext.alloc (Ext.refl w) _
  rw [← hW] at hn ⊢
  have r0 := ExtW.cell (v := .slice p0 S.boxes.length c0) (cell_of_heap hn 0)
  have r1 := ExtW.cell (v := .slice p1 S.stock.length c1) (cell_of_heap hn 1)
  have r2 := ExtW.cell (v := .slice p2 S.earn.length c2) (cell_of_heap hn 2)
  have r3 := ExtW.cell (v := .slice p3 S.keeps.length c3) (cell_of_heap hn 3)
  have r4 := ExtW.cell (v := .int .i64 S.changes) (cell_of_heap hn 4)
  have HEW := Lib.hid hE
  obtain ⟨x0, hx0⟩ := ExtW.of (Ext.refl W)
  clear hW hn hE
  conv => arg 5; rw [hx0]
  clear hx0
  go_wp2
  go_loopw [5, 6] (fun n i wr => ∃ k : Nat, k ≤ Ls.length ∧ i = .int .i64 k ∧ n = .int .i64 (maxE S (Ls.take k)) ∧ ∃ x : ExtW W, wr = x.w) (fun _ i _ => Ls.length - (intOf i).toNat)
  case atStart => exact ⟨0, by omega, rfl, rfl, x0, rfl⟩
  case round =>
    obtain ⟨k, hk, rfl, rfl, x, rfl⟩ := hrel
    by_cases hlt : k < Ls.length
    · obtain ⟨b, o, p, c', rfl, hc, hl⟩ := HQ.out k hlt
      have s2 := ExtW.cell (HEW.out.cell hc)
      have HCC := Lib.hid (fun x : ExtW W => ExtW.call (HC.out x.w (HEW.out.trans x.h) k hlt p c' (hl.ext (HEW.out.trans x.h))))
      have hsn := maxE_snoc S (Ls.take k) Ls[k]
      rw [← List.take_succ_eq_append_getElem hlt] at hsn
      have hb := HB.out k
      have he := HEB.out k hlt
      obtain ⟨a, ha⟩ : ∃ a, a = maxE S (Ls.take k) := ⟨_, rfl⟩
      obtain ⟨z, hz⟩ : ∃ z, z = earnsAll S Ls[k] := ⟨_, rfl⟩
      rw [← ha, ← hz] at hsn
      rw [← ha] at hb
      rw [← hz] at HCC he
      rw [← ha]
      obtain ⟨n, hn⟩ : ∃ n, n = Ls[k].length := ⟨_, rfl⟩
      rw [← hn] at HCC s2
      have HSN := Lib.hid hsn
      clear hsn hc ha hz hl hn hb he
      go_upto_region 5 with (fail)
      refine wp_region_extW (by kernel_rfl) (by kernel_rfl) ?_
      repeat (go_big_quiet_step ((go_at_call 21; exact HCC.out _)))
      refine wpQuiet_nil ?_
      rintro _ ⟨x2, rfl⟩
      go_wp2
      go_roundw
      case rel => exact ⟨k + 1, by omega, by go_num, by rw [HSN.out, ← max_if], x2, rfl⟩
      case measure => simp [intOf]; omega
    · obtain rfl : k = Ls.length := by omega
      rw [List.take_length]
      go_wp2
      go_ret
      exact RetE.fin (HEW.out.trans x.h) rfl
end Go.Proofs.Ytpgjkmjejpfkmaa
namespace Go.Proofs.Ytpgjkmjejpfkmaa
open Go.RowKit

/-- the best of all plans -/
theorem rbestA07 (v : Value) (S : Swap) (q : Option Addr) (c : Nat) (w : World) (hv : SwapV w v S) (hS : ValidE S) (hq : PlansAt w q (fitA S)) :
    Calls Try.prog 65 #[v, .slice q (fitA S).length c] w (RetE (.int .i64 (maxE S (fitA S))) w) := rbest07 v S q _ c w hv hS hq (ps_fit hS)

set_option maxRecDepth 100000 in
set_option maxHeartbeats 1600000 in
theorem rBest07 (v : Value) (S : Swap) (w : World) (hv : SwapV w v S) (hM : Modest S) : Calls Try.prog 48 #[v] w (RetE (ansV S (bestN (openV S))) w) := by
  have HV := Lib.hid hv
  obtain ⟨p0, c0, p1, c1, p2, c2, p3, c3, rfl, h0, h1, h2, h3⟩ := hv
  clear h0 h1 h2 h3
  go_enter Try.func48, Try.ntmps48
  go_upto_region 1 with (fail)
  have hn := heap_new w (.cells #[.slice p0 S.boxes.length c0, .slice p1 S.stock.length c1, .slice p2 S.earn.length c2, .slice p3 S.keeps.length c3, .int .i64 S.changes] 26)
  obtain ⟨W, hW⟩ : ∃ W, W = w.alloc (.cells #[.slice p0 S.boxes.length c0, .slice p1 S.stock.length c1, .slice p2 S.earn.length c2, .slice p3 S.keeps.length c3, .int .i64 S.changes] 26) := ⟨_, rfl⟩
  have hE : Ext w W := by rw [hW]; exact Ext.alloc (Ext.refl w) _
  rw [← hW] at hn ⊢
  have q0 := ExtW.cell (v := .slice p0 S.boxes.length c0) (cell_of_heap hn 0)
  have q1 := ExtW.cell (v := .slice p1 S.stock.length c1) (cell_of_heap hn 1)
  have q2 := ExtW.cell (v := .slice p2 S.earn.length c2) (cell_of_heap hn 2)
  have q3 := ExtW.cell (v := .slice p3 S.keeps.length c3) (cell_of_heap hn 3)
  have q4 := ExtW.cell (v := .int .i64 S.changes) (cell_of_heap hn 4)
  have HQ := Lib.hid (fun (z : World) (hz : Ext W z) => (⟨q0 ⟨z, hz⟩, q1 ⟨z, hz⟩, q2 ⟨z, hz⟩, q3 ⟨z, hz⟩, q4 ⟨z, hz⟩⟩ :
    z.cell? ⟨w.heap.size, 0, none⟩ = some (.slice p0 S.boxes.length c0) ∧ z.cell? ⟨w.heap.size, 1, none⟩ = some (.slice p1 S.stock.length c1) ∧ z.cell? ⟨w.heap.size, 2, none⟩ = some (.slice p2 S.earn.length c2) ∧ z.cell? ⟨w.heap.size, 3, none⟩ = some (.slice p3 S.keeps.length c3) ∧ z.cell? ⟨w.heap.size, 4, none⟩ = some (.int .i64 S.changes)))
  have HK0 := fun x : ExtW W => ExtW.call (rCheck07 _ S x.w (SwapV.mono _ _ _ _ (hE.trans x.h) HV.out) hM)
  obtain ⟨x0, hx0⟩ := ExtW.of (Ext.refl W)
  have HEW := Lib.hid hE
  clear hW hn hE
  conv => arg 5; rw [hx0]
  clear hx0
  by_cases hS : Valid S
  case neg =>
    rw [chk_f hS] at HK0
    have HK := Lib.hid HK0
    have HS := Lib.hid hS
    clear HK0 hS
    go_wp2_with fail
    refine (HK.out _).mono ?_
    rintro e _ ⟨rfl, x1, rfl⟩
    go_wp2
    go_ret2
    exact RetE.fin (HEW.out.trans x1.h) (ansV_f HS.out).symm
  rw [chk_t hS] at HK0
  have HK := Lib.hid HK0
  have HS := Lib.hid hS
  have HF := Lib.hid (fun (z : World) (hz : Ext W z) => fitAll07 _ S z (SwapV.mono _ _ _ _ (HEW.out.trans hz) HV.out) hS.e)
  have HB := Lib.hid (fun (z : World) (hz : Ext W z) q c (hq : PlansAt z q (fitA S)) => rbestA07 _ S q c z (SwapV.mono _ _ _ _ (HEW.out.trans hz) HV.out) hS.e hq)
  clear HK0 hS
  go_wp2_with fail
  refine (HK.out _).mono ?_
  rintro e _ ⟨rfl, x1, rfl⟩
  go_upto_region 4 with (fail)
  have HX := Lib.hid x1.h
  go_region_held3 (fun z => z.cell? ⟨w.heap.size, 0, none⟩ = some (.slice p0 S.boxes.length c0) ∧ z.cell? ⟨w.heap.size, 1, none⟩ = some (.slice p1 S.stock.length c1) ∧ z.cell? ⟨w.heap.size, 2, none⟩ = some (.slice p2 S.earn.length c2) ∧ z.cell? ⟨w.heap.size, 3, none⟩ = some (.slice p3 S.keeps.length c3) ∧ z.cell? ⟨w.heap.size, 4, none⟩ = some (.int .i64 S.changes))
    ((refine HQ.out _ ?_; repeat (first | with_reducible exact HX.out | with_reducible refine Ext.drew ?_ | with_reducible refine Ext.trans ?_ (StpK.out (by assumption)))))
    (first
      | (go_at_call 62; refine (HF.out _ (by repeat (first | with_reducible exact HX.out | with_reducible refine Ext.drew ?_ | with_reducible refine Ext.trans ?_ (StpK.out (by assumption))))).mono ?_; rintro e w1 ⟨qq, cap, rfl, hE1, hp1⟩; have HP1 := Lib.hid hp1; have hS1 := StpK.mk hE1; clear hE1 hp1)
      | (go_at_call 65; refine (HB.out _ (by repeat (first | with_reducible exact HX.out | with_reducible refine Ext.drew ?_ | with_reducible refine Ext.trans ?_ (StpK.out (by assumption)))) qq cap HP1.out).mono ?_; rintro e w2 ⟨rfl, hE2⟩; have hS2 := StpK.mk hE2; clear hE2))
  all_goals
    have hW2 : StpK W w2 := StpK.mk (by repeat (first | with_reducible exact HX.out | with_reducible refine Ext.drew ?_ | with_reducible refine Ext.trans ?_ (StpK.out (by assumption))))
    have he : ansV S (bestN (openV S)) = .tuple #[.int .i64 (maxE S (fitA S)), .int .i64 0] := by rw [ansV_t HS.out, maxE_best HS.out]
    have HE := Lib.hid he
    clear he
    go_wp2
    go_ret2
    exact RetE.fin (HEW.out.trans hW2.out) HE.out.symm

theorem rfew_ge (S : Swap) (g : Int) (l : List (List (List Int))) : -1 ≤ rfew S g l := by
  rcases rfew_spec S g l with ⟨h, -⟩ | ⟨L, -, -, h, -⟩
  · omega
  · omega
theorem chAll_le (B : List (List Int)) {L : List (List Int)} (hr : ∀ i (h : i < L.length), L[i].length ≤ 3) : chAll B L ≤ 40 * L.length := chTo_le B L (fun i h => by have := hr i h; omega) L.length (Nat.le_refl _)

set_option maxRecDepth 100000 in
set_option maxHeartbeats 3200000 in
theorem rFewest07 (v : Value) (S : Swap) (goal : Int) (w : World) (hv : SwapV w v S) (hM : Modest S) : Calls Try.prog 23 #[v, .int .i64 goal] w (RetE (fewV S goal) w) := by
  have HV := Lib.hid hv
  obtain ⟨p0, c0, p1, c1, p2, c2, p3, c3, rfl, h0, h1, h2, h3⟩ := hv
  clear h0 h1 h2 h3
  go_enter Try.func23, Try.ntmps23
  go_upto_region 1 with (fail)
  have hn := heap_new w (.cells #[.slice p0 S.boxes.length c0, .slice p1 S.stock.length c1, .slice p2 S.earn.length c2, .slice p3 S.keeps.length c3, .int .i64 S.changes] 26)
  obtain ⟨W, hW⟩ : ∃ W, W = w.alloc (.cells #[.slice p0 S.boxes.length c0, .slice p1 S.stock.length c1, .slice p2 S.earn.length c2, .slice p3 S.keeps.length c3, .int .i64 S.changes] 26) := ⟨_, rfl⟩
  have hE : Ext w W := by rw [hW]; exact Ext.alloc (Ext.refl w) _
  rw [← hW] at hn ⊢
  have q0 := ExtW.cell (v := .slice p0 S.boxes.length c0) (cell_of_heap hn 0)
  have q1 := ExtW.cell (v := .slice p1 S.stock.length c1) (cell_of_heap hn 1)
  have q2 := ExtW.cell (v := .slice p2 S.earn.length c2) (cell_of_heap hn 2)
  have q3 := ExtW.cell (v := .slice p3 S.keeps.length c3) (cell_of_heap hn 3)
  have q4 := ExtW.cell (v := .int .i64 S.changes) (cell_of_heap hn 4)
  have HQ := Lib.hid (fun (z : World) (hz : Ext W z) => (⟨q0 ⟨z, hz⟩, q1 ⟨z, hz⟩, q2 ⟨z, hz⟩, q3 ⟨z, hz⟩, q4 ⟨z, hz⟩⟩ :
    z.cell? ⟨w.heap.size, 0, none⟩ = some (.slice p0 S.boxes.length c0) ∧ z.cell? ⟨w.heap.size, 1, none⟩ = some (.slice p1 S.stock.length c1) ∧ z.cell? ⟨w.heap.size, 2, none⟩ = some (.slice p2 S.earn.length c2) ∧ z.cell? ⟨w.heap.size, 3, none⟩ = some (.slice p3 S.keeps.length c3) ∧ z.cell? ⟨w.heap.size, 4, none⟩ = some (.int .i64 S.changes)))
  have HK0 := fun x : ExtW W => ExtW.call (rCheck07 _ S x.w (SwapV.mono _ _ _ _ (hE.trans x.h) HV.out) hM)
  obtain ⟨x0, hx0⟩ := ExtW.of (Ext.refl W)
  have HEW := Lib.hid hE
  clear hW hn hE
  conv => arg 5; rw [hx0]
  clear hx0
  by_cases hS : Valid S
  case neg =>
    rw [chk_f hS] at HK0
    have HK := Lib.hid HK0
    have HS := Lib.hid hS
    clear HK0 hS
    go_wp2_with fail
    refine (HK.out _).mono ?_
    rintro e _ ⟨rfl, x1, rfl⟩
    have he : fewV S goal = .tuple #[.int .i64 0, .int .i64 70] := by simp [fewV, bP_f HS.out]
    have HE := Lib.hid he
    clear he
    go_wp2
    go_ret2
    exact RetE.fin (HEW.out.trans x1.h) HE.out.symm
  rw [chk_t hS] at HK0
  have HK := Lib.hid HK0
  have HS := Lib.hid hS
  clear HK0
  by_cases hg : 0 ≤ goal ∧ goal ≤ 99999
  case neg =>
    have he : fewV S goal = .tuple #[.int .i64 0, .int .i64 1] := by simp [fewV, bP_t HS.out, bP_f hg]
    have HE := Lib.hid he
    have HWI := Lib.hid (fun x : ExtW W => ExtW.call (RetQ.e (RetQ.bf hg (rwithin07 goal 0 99999 x.w))))
    clear he hg hS
    go_wp2_with fail
    refine (HK.out _).mono ?_
    rintro e _ ⟨rfl, x1, rfl⟩
    go_wp2_with fail
    refine (HWI.out _).mono ?_
    rintro e _ ⟨rfl, x2, rfl⟩
    go_wp2
    go_ret2
    exact RetE.fin (HEW.out.trans x2.h) HE.out.symm
  have HWI := Lib.hid (fun x : ExtW W => ExtW.call (RetQ.e (RetQ.bt hg (rwithin07 goal 0 99999 x.w))))
  have HG := Lib.hid hg
  have hps := ps_fit hS.e
  have HF := Lib.hid (fun (z : World) (hz : Ext W z) => fitAll07 _ S z (SwapV.mono _ _ _ _ (HEW.out.trans hz) HV.out) hS.e)
  have HLR := Lib.hid (rfew_few hS goal)
  obtain ⟨Ls, hLs⟩ : ∃ Ls, Ls = fitA S := ⟨_, rfl⟩
  rw [← hLs] at hps HF HLR
  have HEB := Lib.hid (fun k (h : k < Ls.length) => earnsAll_bde hS.e (hps.len k h) (hps.row k h))
  have HCB := Lib.hid (fun k (h : k < Ls.length) => chAll_le S.boxes (hps.row k h))
  have HLB := Lib.hid (fun k (h : k < Ls.length) => (by rw [hps.len k h]; exact hS.boxes : Ls[k].length ≤ 3))
  have HEA := Lib.hid (fun (x : World) (hx : Ext W x) k (h : k < Ls.length) p c' (hp : ListsAt x p Ls[k]) => EarnsAll07e _ S p Ls[k] c' x (SwapV.mono _ _ _ _ (HEW.out.trans hx) HV.out) hS.e hp (by have := hps.len k h; omega) (fun i hi => by have := hps.row k h i hi; omega) (hps.mem k h))
  have HAC := Lib.hid (fun (x : World) (hx : Ext W x) k (h : k < Ls.length) p c' (hp : ListsAt x p Ls[k]) => AllChanges07 _ S p Ls[k] c' x (SwapV.mono _ _ _ _ (HEW.out.trans hx) HV.out) hM hp (by have := hps.len k h; omega) (by have := hps.len k h; have := hS.boxes; omega) (fun i hi => by have := hps.row k h i hi; omega))
  have hall := hps.all
  clear hg hS hps hLs
  go_wp2_with fail
  refine (HK.out _).mono ?_
  rintro e _ ⟨rfl, x1, rfl⟩
  go_wp2_with fail
  refine (HWI.out _).mono ?_
  rintro e _ ⟨rfl, x2, rfl⟩
  go_wp2_with fail
  refine (HF.out _ x2.h).mono ?_
  rintro e w3 ⟨qq, cap, rfl, hE3, hp3⟩
  have hW3 : Ext W w3 := x2.h.trans hE3
  have HW3 := Lib.hid hW3
  have HP3 := Lib.hid hp3
  clear hE3 hp3 hW3
  go_wp2
  go_loopw [8, 9] (fun n i wr => ∃ k : Nat, k ≤ Ls.length ∧ i = .int .i64 k ∧ n = .int .i64 (rfew S goal (Ls.take k)) ∧ Ext w3 wr) (fun _ i _ => Ls.length - (intOf i).toNat)
  case atStart => exact ⟨0, by omega, rfl, rfl, Ext.refl _⟩
  case round =>
    obtain ⟨k, hk, rfl, rfl, hwr⟩ := hrel
    have HWR := Lib.hid (HW3.out.trans hwr)
    by_cases hlt : k < Ls.length
    · obtain ⟨b, o, p, c', rfl, hc, hl⟩ := HP3.out.ext hwr k hlt
      have hge := rfew_ge S goal (Ls.take k)
      have hsn := rfew_snoc S goal (Ls.take k) Ls[k]
      rw [← List.take_succ_eq_append_getElem hlt] at hsn
      unfold rfewStep at hsn
      have hb := HCB.out k hlt
      have hlb := HLB.out k hlt
      have he := HEB.out k hlt
      have s2 := ExtW.cell hc
      have r0 := ExtW.cell ((HQ.out wr HWR.out).1)
      have r1 := ExtW.cell ((HQ.out wr HWR.out).2.1)
      have r2 := ExtW.cell ((HQ.out wr HWR.out).2.2.1)
      have r3 := ExtW.cell ((HQ.out wr HWR.out).2.2.2.1)
      have r4 := ExtW.cell ((HQ.out wr HWR.out).2.2.2.2)
      have hC1 := fun y : ExtW wr => ExtW.call (HEA.out y.w (HWR.out.trans y.h) k hlt p c' (hl.ext y.h))
      have hC2 := fun y : ExtW wr => ExtW.call (HAC.out y.w (HWR.out.trans y.h) k hlt p c' (hl.ext y.h))
      have HH := Lib.hid hwr
      obtain ⟨m, hm⟩ : ∃ m, m = rfew S goal (Ls.take k) := ⟨_, rfl⟩
      obtain ⟨z, hz⟩ : ∃ z, z = earnsAll S Ls[k] := ⟨_, rfl⟩
      obtain ⟨n, hn⟩ : ∃ n, n = chAll S.boxes Ls[k] := ⟨_, rfl⟩
      rw [← hm, ← hz, ← hn] at hsn
      rw [← hm] at hge
      rw [← hm]
      rw [← hz] at hC1 he
      rw [← hn] at hC2 hb
      obtain ⟨ll, hll⟩ : ∃ ll, ll = Ls[k].length := ⟨_, rfl⟩
      rw [← hll] at hC1 hC2 s2 hb hlb
      have HC1 := Lib.hid hC1
      have HC2 := Lib.hid hC2
      have HSN := Lib.hid hsn
      obtain ⟨xr, hxr⟩ := ExtW.of (Ext.refl wr)
      clear hsn hc hl hm hz hn hll hC1 hC2 hwr
      conv => arg 5; rw [hxr]
      clear hxr
      go_upto_region 10 with (fail)
      refine wp_region_extW (by kernel_rfl) (by kernel_rfl) ?_
      repeat (go_big_quiet_step ((go_at_call 45; exact HC2.out _)))
      refine wpQuiet_nil ?_
      rintro _ ⟨y1, rfl⟩
      have key : ∀ (t : Int), (if goal ≤ z ∧ (m < 0 ∨ (n : Int) < m) then (n : Int) else m) = t → rfew S goal (Ls.take (k + 1)) = t := fun t h => by rw [HSN.out, h]
      have KEY := Lib.hid key
      clear key
      by_cases hgz : goal ≤ z
      case neg =>
        have hd : decide (goal ≤ z) = false := by simpa using hgz
        have HGZ := Lib.hid hgz
        clear hgz
        go_upto_region 11 with (fail)
        refine wp_region_extW (by kernel_rfl) (by kernel_rfl) ?_
        repeat (go_big_quiet_step ((go_at_call 21; exact HC1.out _)))
        refine wpQuiet_nil ?_
        rintro _ ⟨y2, rfl⟩
        go_wp2
        go_roundw
        case rel => exact ⟨k + 1, by omega, by go_num, by rw [KEY.out _ (by rw [if_neg (fun h => HGZ.out h.1)])], HH.out.trans y2.h⟩
        case measure => simp [intOf]; omega
      have hd : decide (goal ≤ z) = true := by simpa using hgz
      have HGZ := Lib.hid hgz
      clear hgz
      by_cases hm0 : m < 0
      · have hd2 : decide (m < 0) = true := by simpa using hm0
        have HM0 := Lib.hid hm0
        clear hm0
        go_upto_region 11 with (fail)
        refine wp_region_extW (by kernel_rfl) (by kernel_rfl) ?_
        repeat (go_big_quiet_step ((go_at_call 21; exact HC1.out _)))
        refine wpQuiet_nil ?_
        rintro _ ⟨y2, rfl⟩
        go_wp2
        go_roundw
        case rel => exact ⟨k + 1, by omega, by go_num, by rw [KEY.out _ (by rw [if_pos ⟨HGZ.out, Or.inl HM0.out⟩])], HH.out.trans y2.h⟩
        case measure => simp [intOf]; omega
      · have hd2 : decide (m < 0) = false := by simpa using hm0
        have HM0 := Lib.hid hm0
        clear hm0
        by_cases hnm : (n : Int) < m
        · have hd3 : decide ((n : Int) < m) = true := by simpa using hnm
          have HNM := Lib.hid hnm
          clear hnm
          go_upto_region 11 with (fail)
          refine wp_region_extW (by kernel_rfl) (by kernel_rfl) ?_
          repeat (go_big_quiet_step ((go_at_call 21; exact HC1.out _)))
          refine wpQuiet_nil ?_
          rintro _ ⟨y2, rfl⟩
          go_wp2
          go_roundw
          case rel => exact ⟨k + 1, by omega, by go_num, by rw [KEY.out _ (by rw [if_pos ⟨HGZ.out, Or.inr HNM.out⟩])], HH.out.trans y2.h⟩
          case measure => simp [intOf]; omega
        · have hd3 : decide ((n : Int) < m) = false := by simpa using hnm
          have HNM := Lib.hid hnm
          clear hnm
          go_upto_region 11 with (fail)
          refine wp_region_extW (by kernel_rfl) (by kernel_rfl) ?_
          repeat (go_big_quiet_step ((go_at_call 21; exact HC1.out _)))
          refine wpQuiet_nil ?_
          rintro _ ⟨y2, rfl⟩
          go_wp2
          go_roundw
          case rel => exact ⟨k + 1, by omega, by go_num, by rw [KEY.out _ (by rw [if_neg (fun h => h.2.elim HM0.out HNM.out)])], HH.out.trans y2.h⟩
          case measure => simp [intOf]; omega
    · obtain rfl : k = Ls.length := by omega
      have hfin : rfew S goal (Ls.take Ls.length) = fewOf (openV S) goal (allP (openV S)) := by rw [List.take_length]; exact HLR.out
      have hge := rfew_ge S goal (Ls.take Ls.length)
      obtain ⟨z, hz⟩ : ∃ z, z = rfew S goal (Ls.take Ls.length) := ⟨_, rfl⟩
      rw [← hz] at hfin hge
      rw [← hz]
      have HFIN := Lib.hid hfin
      clear hz hfin
      by_cases hneg : z < 0
      · have he : fewV S goal = .tuple #[.int .i64 0, .int .i64 3] := by
          have h1 : fewOf (openV S) goal (allP (openV S)) < 0 := by rw [← HFIN.out]; exact hneg
          simp [fewV, bP_t HS.out, bP_t HG.out, bP_t h1]
        have HE := Lib.hid he
        clear he
        go_wp2
        go_ret2
        exact RetE.fin (HEW.out.trans HWR.out) HE.out.symm
      · have he : fewV S goal = .tuple #[.int .i64 z, .int .i64 0] := by
          have h1 : ¬fewOf (openV S) goal (allP (openV S)) < 0 := by rw [← HFIN.out]; exact hneg
          unfold fewV
          rw [if_pos (bP_t HS.out), if_pos (bP_t HG.out), if_neg (by rw [bP_iff]; exact h1), ← HFIN.out]
        have HE := Lib.hid he
        clear he
        go_wp2
        go_ret2
        exact RetE.fin (HEW.out.trans HWR.out) HE.out.symm
end Go.Proofs.Ytpgjkmjejpfkmaa
namespace Go.Proofs.Ytpgjkmjejpfkmaa
open Go.RowKit

set_option maxRecDepth 100000 in
set_option maxHeartbeats 3200000 in
theorem rFair07 (v : Value) (S : Swap) (w : World) (hv : SwapV w v S) (hM : Modest S) : Calls Try.prog 50 #[v] w (RetE (fairV S) w) := by
  have HV := Lib.hid hv
  obtain ⟨p0, c0, p1, c1, p2, c2, p3, c3, rfl, h0, h1, h2, h3⟩ := hv
  clear h0 h1 h2 h3
  go_enter Try.func50, Try.ntmps50
  go_upto_region 1 with (fail)
  have hn := heap_new w (.cells #[.slice p0 S.boxes.length c0, .slice p1 S.stock.length c1, .slice p2 S.earn.length c2, .slice p3 S.keeps.length c3, .int .i64 S.changes] 26)
  obtain ⟨W, hW⟩ : ∃ W, W = w.alloc (.cells #[.slice p0 S.boxes.length c0, .slice p1 S.stock.length c1, .slice p2 S.earn.length c2, .slice p3 S.keeps.length c3, .int .i64 S.changes] 26) := ⟨_, rfl⟩
  have hE : Ext w W := by rw [hW]; exact Ext.alloc (Ext.refl w) _
  rw [← hW] at hn ⊢
  have q0 := ExtW.cell (v := .slice p0 S.boxes.length c0) (cell_of_heap hn 0)
  have q1 := ExtW.cell (v := .slice p1 S.stock.length c1) (cell_of_heap hn 1)
  have q2 := ExtW.cell (v := .slice p2 S.earn.length c2) (cell_of_heap hn 2)
  have q3 := ExtW.cell (v := .slice p3 S.keeps.length c3) (cell_of_heap hn 3)
  have q4 := ExtW.cell (v := .int .i64 S.changes) (cell_of_heap hn 4)
  have HQ := Lib.hid (fun (z : World) (hz : Ext W z) => (⟨q0 ⟨z, hz⟩, q1 ⟨z, hz⟩, q2 ⟨z, hz⟩, q3 ⟨z, hz⟩, q4 ⟨z, hz⟩⟩ :
    z.cell? ⟨w.heap.size, 0, none⟩ = some (.slice p0 S.boxes.length c0) ∧ z.cell? ⟨w.heap.size, 1, none⟩ = some (.slice p1 S.stock.length c1) ∧ z.cell? ⟨w.heap.size, 2, none⟩ = some (.slice p2 S.earn.length c2) ∧ z.cell? ⟨w.heap.size, 3, none⟩ = some (.slice p3 S.keeps.length c3) ∧ z.cell? ⟨w.heap.size, 4, none⟩ = some (.int .i64 S.changes)))
  have HK0 := fun x : ExtW W => ExtW.call (rCheck07 _ S x.w (SwapV.mono _ _ _ _ (hE.trans x.h) HV.out) hM)
  obtain ⟨x0, hx0⟩ := ExtW.of (Ext.refl W)
  have HEW := Lib.hid hE
  clear hW hn hE
  conv => arg 5; rw [hx0]
  clear hx0
  by_cases hS : Valid S
  case neg =>
    rw [chk_f hS] at HK0
    have HK := Lib.hid HK0
    have HS := Lib.hid hS
    clear HK0 hS
    go_wp2_with fail
    refine (HK.out _).mono ?_
    rintro e _ ⟨rfl, x1, rfl⟩
    have he : fairV S = .tuple #[.int .i64 0, .int .i64 70] := by simp [fairV, bP_f HS.out]
    have HE := Lib.hid he
    clear he
    go_wp2
    go_ret2
    exact RetE.fin (HEW.out.trans x1.h) HE.out.symm
  rw [chk_t hS] at HK0
  have HK := Lib.hid HK0
  have HS := Lib.hid hS
  clear HK0
  by_cases h0 : S.boxes.length = 0
  · have he : fairV S = .tuple #[.int .i64 0, .int .i64 3] := by simp [fairV, bP_t hS, h0]
    have HE := Lib.hid he
    have hz : ((S.boxes.length : Int) == 0) = true := by rw [h0]; rfl
    have H0 := Lib.hid h0
    clear he hS h0
    go_wp2_with fail
    refine (HK.out _).mono ?_
    rintro e _ ⟨rfl, x1, rfl⟩
    go_wp2
    go_ret2
    exact RetE.fin (HEW.out.trans x1.h) HE.out.symm
  have hz : ((S.boxes.length : Int) == 0) = false := by rw [beq_eq_false_iff_ne]; omega
  have hpos : 0 < S.boxes.length := by omega
  have hb3 := hS.boxes
  have hps := ps_fit hS.e
  have HF := Lib.hid (fun (z : World) (hz : Ext W z) => fitAll07 _ S z (SwapV.mono _ _ _ _ (HEW.out.trans hz) HV.out) hS.e)
  have HLR := Lib.hid (rfair_fair hS hpos)
  have HRES := Lib.hid (fun z (hz : z = fairOf (openV S) (allP (openV S))) => (by simp only [fairV, bP_t hS, if_true, if_neg h0, hz] : fairV S = .tuple #[.int .i64 z, .int .i64 0]))
  obtain ⟨Ls, hLs⟩ : ∃ Ls, Ls = fitA S := ⟨_, rfl⟩
  rw [← hLs] at hps HF HLR
  have HEI := Lib.hid (fun (x : World) (hx : Ext W x) k (h : k < Ls.length) (L : List (List Int)) (hL : L = Ls[k]) j (hj : j < L.length) q' c' (hq : IntsAt x q' L[j]) =>
    EarnsIn07e _ S j q' L[j] c' x (SwapV.mono _ _ _ _ (HEW.out.trans hx) HV.out) hS.e hq (by subst hL; have := hps.row k h j hj; omega) (by subst hL; have := hps.len k h; omega) (by subst hL; exact hps.mem k h j hj))
  have HLN := Lib.hid (fun k (h : k < Ls.length) => hps.len k h)
  have hall := hps.all
  clear hS hps hLs h0
  go_wp2_with fail
  refine (HK.out _).mono ?_
  rintro e _ ⟨rfl, x1, rfl⟩
  go_wp2_with fail
  refine (HF.out _ x1.h).mono ?_
  rintro e w3 ⟨qq, cap, rfl, hE3, hp3⟩
  have HW3 := Lib.hid (x1.h.trans hE3)
  have HP3 := Lib.hid hp3
  clear hE3 hp3
  go_wp2
  go_loopw [6, 7] (fun n i wr => ∃ k : Nat, k ≤ Ls.length ∧ i = .int .i64 k ∧ n = .int .i64 (rfair S (Ls.take k)) ∧ Ext w3 wr) (fun _ i _ => Ls.length - (intOf i).toNat)
  case atStart => exact ⟨0, by omega, rfl, rfl, Ext.refl _⟩
  case round =>
    obtain ⟨k, hk, rfl, rfl, hwr⟩ := hrel
    have HWR := Lib.hid (HW3.out.trans hwr)
    by_cases hlt : k < Ls.length
    · obtain ⟨b, o, p, c', rfl, hc, hl⟩ := HP3.out.ext hwr k hlt
      have hsn := rfair_snoc S (Ls.take k) Ls[k]
      rw [← List.take_succ_eq_append_getElem hlt] at hsn
      have hln := HLN.out k hlt
      obtain ⟨L, hL⟩ : ∃ L, L = Ls[k] := ⟨_, rfl⟩
      have HEI2 := Lib.hid (fun (y : ExtW wr) j (hj : j < L.length) q' c' (hq : IntsAt y.w q' L[j]) => ExtW.call (HEI.out y.w (HWR.out.trans y.h) k hlt L hL j hj q' c' hq))
      rw [← hL] at hsn hln hc hl
      have HHL := Lib.hid hl
      have HSN := Lib.hid hsn
      obtain ⟨b2, o2, q2, c2', rfl, hc2, hq2⟩ := hl.at 0 (by omega)
      rw [Nat.add_zero] at hc2
      have hLp : 0 < L.length := by omega
      have s2 := ExtW.cell hc
      have s3 := ExtW.cell hc2
      have r0 := ExtW.cell ((HQ.out wr HWR.out).1)
      have r1 := ExtW.cell ((HQ.out wr HWR.out).2.1)
      have r2 := ExtW.cell ((HQ.out wr HWR.out).2.2.1)
      have r3 := ExtW.cell ((HQ.out wr HWR.out).2.2.2.1)
      have r4 := ExtW.cell ((HQ.out wr HWR.out).2.2.2.2)
      have HC1 := Lib.hid (fun y : ExtW wr => (HEI2.out y 0 (by omega) q2 c2' (hq2.ext y.h) : Calls Try.prog 60 #[_, .int .i64 0, .slice q2 L[0].length c2'] y.w _))
      have hrl : rleast S L 0 = earnsIn S 0 L[0] := by unfold rleast; rw [getD_of_lt _ _ _ (by omega : 0 < L.length)]
      obtain ⟨l0, hl0⟩ : ∃ l, l = L[0].length := ⟨_, rfl⟩
      rw [← hrl, ← hl0] at HC1
      rw [← hl0] at s3
      have HH := Lib.hid hwr
      have HLEN := Lib.hid hln
      obtain ⟨m, hm⟩ : ∃ m, m = rfair S (Ls.take k) := ⟨_, rfl⟩
      rw [← hm] at HSN
      rw [← hm]
      obtain ⟨xr, hxr⟩ := ExtW.of (Ext.refl wr)
      clear hL hsn hc hl hc2 hq2 hln hwr hm hrl hl0
      conv => arg 5; rw [hxr]
      clear hxr
      go_upto_region 10 with (fail)
      refine wp_region_extW (by kernel_rfl) (by kernel_rfl) ?_
      repeat (go_big_quiet_step ((go_at_call 60; exact HC1.out _)))
      refine wpQuiet_nil ?_
      rintro _ ⟨y1, rfl⟩
      clear s3 HC1
      go_wp2
      go_loopw [8, 9] (fun n i wr2 => ∃ j : Nat, j + 1 ≤ S.boxes.length ∧ i = .int .i64 (j + 1 : Nat) ∧ n = .int .i64 (rleast S L j) ∧ ∃ y : ExtW wr, wr2 = y.w) (fun _ i _ => S.boxes.length - (intOf i).toNat)
      case atStart => exact ⟨0, by omega, rfl, rfl, y1, rfl⟩
      case round =>
        obtain ⟨j, hj, rfl, rfl, y, rfl⟩ := hrel
        by_cases hjl : j + 1 < S.boxes.length
        · have hjL : j + 1 < L.length := by have := HLEN.out; omega
          obtain ⟨b3, o3, q3', c3', he3, hc3, hq3⟩ := HHL.out.at (j + 1) hjL
          injection he3 with he3
          injection he3 with he3 he3' _
          subst he3 he3'
          have s3 := ExtW.cell hc3
          have HC1 := Lib.hid (fun y : ExtW wr => (HEI2.out y (j + 1) hjL q3' c3' (hq3.ext y.h)))
          have hrl : rleast S L (j + 1) = min (rleast S L j) (earnsIn S (j + 1) L[j + 1]) := by rw [rleast, getD_of_lt _ _ _ hjL]
          obtain ⟨l0, hl0⟩ : ∃ l, l = L[j + 1].length := ⟨_, rfl⟩
          obtain ⟨z, hz'⟩ : ∃ z, z = earnsIn S (j + 1) L[j + 1] := ⟨_, rfl⟩
          obtain ⟨a, ha⟩ : ∃ a, a = rleast S L j := ⟨_, rfl⟩
          obtain ⟨j1, hj1⟩ : ∃ j1, j1 = j + 1 := ⟨_, rfl⟩
          have hjL2 := hjL
          rw [← hl0, ← hz'] at HC1
          rw [← hl0] at s3
          rw [← hz', ← ha] at hrl
          rw [← hj1] at HC1 s3 hjl hrl hjL2
          rw [← ha, ← hj1]
          have HRL := Lib.hid hrl
          have HJ1 := Lib.hid hj1
          clear hc3 hq3 hl0 hz' ha hrl hj1 hjL
          go_upto_region 14 with (fail)
          refine wp_region_extW (by kernel_rfl) (by kernel_rfl) ?_
          repeat (go_big_quiet_step ((go_at_call 60; exact HC1.out _)))
          refine wpQuiet_nil ?_
          rintro _ ⟨y2, rfl⟩
          go_wp2
          go_roundw
          case rel => exact ⟨j + 1, by have := HJ1.out; omega, by have := HJ1.out; go_num, by rw [← HJ1.out, HRL.out, ← min_if], y2, rfl⟩
          case measure => have := HJ1.out; simp [intOf]; omega
        · obtain rfl : j = S.boxes.length - 1 := by omega
          have hj1 : S.boxes.length - 1 + 1 = S.boxes.length := by omega
          rw [hj1]
          obtain ⟨a, ha⟩ : ∃ a, a = rleast S L (S.boxes.length - 1) := ⟨_, rfl⟩
          rw [← ha] at HSN
          rw [← ha]
          clear hj hj1 hjl ha
          go_wp2
          go_roundw
          case rel => exact ⟨k + 1, by omega, by go_num, by rw [HSN.out, ← max_if], HH.out.trans y.h⟩
          case measure => simp [intOf]; omega
    · obtain rfl : k = Ls.length := by omega
      have hfin : rfair S (Ls.take Ls.length) = fairOf (openV S) (allP (openV S)) := by rw [List.take_length]; exact HLR.out
      have HE := Lib.hid (HRES.out _ hfin)
      clear hfin
      go_wp2
      go_ret2
      exact RetE.fin (HEW.out.trans HWR.out) HE.out.symm
end Go.Proofs.Ytpgjkmjejpfkmaa
namespace Go.Proofs.Ytpgjkmjejpfkmaa
open Go.RowKit

theorem ralwTo_succ (S : Swap) (b n : Nat) : ralwTo S b (n + 1) = ralwTo S b n ++ if bP (RAlw S b n) = true then [((b : Int), (n : Int))] else [] := by
  unfold ralwTo
  rw [List.range_succ, List.filter_append, List.map_append]
  by_cases h : bP (RAlw S b n) = true
  · simp [h]
  · simp [h]
theorem ralwTo_len (S : Swap) (b n : Nat) : (ralwTo S b n).length ≤ n := by
  unfold ralwTo
  rw [List.length_map]
  exact Nat.le_trans (List.length_filter_le _ _) (by simp)
noncomputable def ralwB (S : Swap) (n : Nat) : List (Int × Int) := (List.range n).flatMap fun b => ralwTo S b S.stock.length
theorem ralwB_succ (S : Swap) (n : Nat) : ralwB S (n + 1) = ralwB S n ++ ralwTo S n S.stock.length := by
  unfold ralwB
  rw [List.range_succ, List.flatMap_append]
  simp
theorem ralwB_len (S : Swap) (n : Nat) : (ralwB S n).length ≤ n * S.stock.length := by
  induction n with
  | zero => simp [ralwB]
  | succ n ih =>
    have := ralwTo_len S n S.stock.length
    rw [ralwB_succ, List.length_append, Nat.succ_mul]
    omega
/-- a title is in a box in each of the first so many plans that are best -/
def AlwQ (S : Swap) (Ls : List (List (List Int))) (m : Int) (b t : Nat) (k : Nat) : Prop := ∀ i (h : i < Ls.length), i < k → (earnsAll S Ls[i] < m ∨ ((t : Nat) : Int) ∈ Ls[i].getD b [])
theorem alwQ_succ {S : Swap} {Ls : List (List (List Int))} {m : Int} {b t k : Nat} (h : k < Ls.length) : AlwQ S Ls m b t (k + 1) ↔ AlwQ S Ls m b t k ∧ (earnsAll S Ls[k] < m ∨ ((t : Nat) : Int) ∈ Ls[k].getD b []) := by
  constructor
  · intro hq
    exact ⟨fun i hi hk => hq i hi (by omega), hq k h (by omega)⟩
  · rintro ⟨h1, h2⟩ i hi hk
    by_cases e : i < k
    · exact h1 i hi e
    · obtain rfl : i = k := by omega
      exact h2
theorem alwQ_all {S : Swap} {b t : Nat} : AlwQ S (fitA S) (bestN (openV S)) b t (fitA S).length ↔ RAlw S b t := by
  constructor
  · intro h L hL
    obtain ⟨i, hi, rfl⟩ := List.getElem_of_mem hL
    exact h i hi hi
  · intro h i hi _
    exact h _ (List.getElem_mem hi)

set_option maxRecDepth 100000 in
set_option maxHeartbeats 3200000 in
theorem rAlways07 (v : Value) (S : Swap) (w : World) (hv : SwapV w v S) (hM : Modest S) : Calls Try.prog 49 #[v] w (AlwPost S w) := by
  have HV := Lib.hid hv
  obtain ⟨p0, c0, p1, c1, p2, c2, p3, c3, rfl, h0, h1, h2, h3⟩ := hv
  clear h0 h1 h2 h3
  go_enter Try.func49, Try.ntmps49
  go_upto_region 1 with (fail)
  have hn := heap_new w (.cells #[.slice p0 S.boxes.length c0, .slice p1 S.stock.length c1, .slice p2 S.earn.length c2, .slice p3 S.keeps.length c3, .int .i64 S.changes] 26)
  obtain ⟨W, hW⟩ : ∃ W, W = w.alloc (.cells #[.slice p0 S.boxes.length c0, .slice p1 S.stock.length c1, .slice p2 S.earn.length c2, .slice p3 S.keeps.length c3, .int .i64 S.changes] 26) := ⟨_, rfl⟩
  have hE : Ext w W := by rw [hW]; exact Ext.alloc (Ext.refl w) _
  rw [← hW] at hn ⊢
  have q0 := ExtW.cell (v := .slice p0 S.boxes.length c0) (cell_of_heap hn 0)
  have q1 := ExtW.cell (v := .slice p1 S.stock.length c1) (cell_of_heap hn 1)
  have q2 := ExtW.cell (v := .slice p2 S.earn.length c2) (cell_of_heap hn 2)
  have q3 := ExtW.cell (v := .slice p3 S.keeps.length c3) (cell_of_heap hn 3)
  have q4 := ExtW.cell (v := .int .i64 S.changes) (cell_of_heap hn 4)
  have HQ := Lib.hid (fun (z : World) (hz : Ext W z) => (⟨q0 ⟨z, hz⟩, q1 ⟨z, hz⟩, q2 ⟨z, hz⟩, q3 ⟨z, hz⟩, q4 ⟨z, hz⟩⟩ :
    z.cell? ⟨w.heap.size, 0, none⟩ = some (.slice p0 S.boxes.length c0) ∧ z.cell? ⟨w.heap.size, 1, none⟩ = some (.slice p1 S.stock.length c1) ∧ z.cell? ⟨w.heap.size, 2, none⟩ = some (.slice p2 S.earn.length c2) ∧ z.cell? ⟨w.heap.size, 3, none⟩ = some (.slice p3 S.keeps.length c3) ∧ z.cell? ⟨w.heap.size, 4, none⟩ = some (.int .i64 S.changes)))
  have HK0 := fun x : ExtW W => ExtW.call (rCheck07 _ S x.w (SwapV.mono _ _ _ _ (hE.trans x.h) HV.out) hM)
  obtain ⟨x0, hx0⟩ := ExtW.of (Ext.refl W)
  have HEW := Lib.hid hE
  clear hW hn hE
  conv => arg 5; rw [hx0]
  clear hx0
  by_cases hS : Valid S
  case neg =>
    rw [chk_f hS] at HK0
    have HK := Lib.hid HK0
    have HS := Lib.hid hS
    clear HK0 hS
    go_wp2_with fail
    refine (HK.out _).mono ?_
    rintro e _ ⟨rfl, x1, rfl⟩
    go_wp2
    go_ret2
    exact Or.inr ⟨HS.out, rfl, HEW.out.trans x1.h⟩
  rw [chk_t hS] at HK0
  have HK := Lib.hid HK0
  have HS := Lib.hid hS
  clear HK0
  have hb3 := hS.boxes
  have hs6 := hS.stock
  have hps := ps_fit hS.e
  have HF := Lib.hid (fun (z : World) (hz : Ext W z) => fitAll07 _ S z (SwapV.mono _ _ _ _ (HEW.out.trans hz) HV.out) hS.e)
  have HB := Lib.hid (fun (z : World) (hz : Ext W z) q c (hq : PlansAt z q (fitA S)) => rbestA07 _ S q c z (SwapV.mono _ _ _ _ (HEW.out.trans hz) HV.out) hS.e hq)
  obtain ⟨m, hm⟩ : ∃ m, m = maxE S (fitA S) := ⟨_, rfl⟩
  rw [← hm] at HB
  have HQA := Lib.hid (fun b t => (by rw [hm, maxE_best hS]; exact alwQ_all : AlwQ S (fitA S) m b t (fitA S).length ↔ RAlw S b t))
  obtain ⟨Ls, hLs⟩ : ∃ Ls, Ls = fitA S := ⟨_, rfl⟩
  rw [← hLs] at hps HF HB HQA
  have HEA := Lib.hid (fun (x : World) (hx : Ext W x) k (h : k < Ls.length) p c' (hp : ListsAt x p Ls[k]) => EarnsAll07e _ S p Ls[k] c' x (SwapV.mono _ _ _ _ (HEW.out.trans hx) HV.out) hS.e hp (by have := hps.len k h; omega) (fun i hi => by have := hps.row k h i hi; omega) (hps.mem k h))
  have HLN := Lib.hid (fun k (h : k < Ls.length) => hps.len k h)
  have HLR := Lib.hid (fun k (h : k < Ls.length) j (hj : j < Ls[k].length) => hps.row k h j hj)
  have hall := hps.all
  have HRA := Lib.hid (ralw_alw hS)
  obtain ⟨i2, hi2, hz2, hy2, hb2⟩ := info_parts info_c
  clear hS hps hLs hm
  go_wp2_with fail
  refine (HK.out _).mono ?_
  rintro e _ ⟨rfl, x1, rfl⟩
  go_wp2_with fail
  refine (HF.out _ x1.h).mono ?_
  rintro e w2 ⟨qq, cap, rfl, hE2, hp2⟩
  have hE2' := x1.h.trans hE2
  have HB2 := Lib.hid (HB.out w2 hE2' qq cap hp2)
  have HE2 := Lib.hid hE2'
  have HP2 := Lib.hid hp2
  have t0 := (HQ.out w2 hE2').1
  have t1 := (HQ.out w2 hE2').2.1
  have t2 := (HQ.out w2 hE2').2.2.1
  have t3 := (HQ.out w2 hE2').2.2.2.1
  have t4 := (HQ.out w2 hE2').2.2.2.2
  clear hE2 hp2 hE2'
  go_wp2_with fail
  refine HB2.out.mono ?_
  rintro e w3 ⟨rfl, hE3⟩
  have HW3 := Lib.hid (HE2.out.trans hE3)
  have HP3 := Lib.hid (HP2.out.ext hE3)
  clear hE3 t0 t1 t2 t3 t4 HB2 HP2
  go_wp2
  go_loopw [7, 8] (fun u i wr => ∃ n : Nat, n ≤ S.boxes.length ∧ i = .int .i64 n ∧ Ext w3 wr ∧ wr.ownsRow w3.heap.size 45 2 u (ralwB S n).length (pairVs (ralwB S n))) (fun _ i _ => S.boxes.length - (intOf i).toNat)
  case atStart => exact ⟨0, by omega, rfl, Ext.refl _, World.ownsRow_nil _ _ _ _⟩
  case round =>
    obtain ⟨n, hn, rfl, hwr, hown⟩ := hrel
    have HWR := Lib.hid (HW3.out.trans hwr)
    have HH := Lib.hid hwr
    have HO := Lib.hid hown
    have t0 := (HQ.out wr HWR.out).1
    clear hwr hown
    by_cases hnl : n < S.boxes.length
    · go_wp2
      go_loopw [7, 9] (fun u i wr => ∃ t : Nat, t ≤ S.stock.length ∧ i = .int .i64 t ∧ Ext w3 wr ∧ wr.ownsRow w3.heap.size 45 2 u (ralwB S n ++ ralwTo S n t).length (pairVs (ralwB S n ++ ralwTo S n t))) (fun _ i _ => S.stock.length - (intOf i).toNat)
      case atStart => exact ⟨0, by omega, rfl, HH.out, by simpa [ralwTo] using HO.out⟩
      case round =>
        clear HO HH HWR t0
        obtain ⟨t, ht, rfl, hwr, hown⟩ := hrel
        have HWR := Lib.hid (HW3.out.trans hwr)
        have HH := Lib.hid hwr
        have HO := Lib.hid hown
        have HPW := Lib.hid (HP3.out.ext hwr)
        have r0 := ExtW.cell ((HQ.out wr HWR.out).1)
        have r1 := ExtW.cell ((HQ.out wr HWR.out).2.1)
        have r2 := ExtW.cell ((HQ.out wr HWR.out).2.2.1)
        have r3 := ExtW.cell ((HQ.out wr HWR.out).2.2.2.1)
        have r4 := ExtW.cell ((HQ.out wr HWR.out).2.2.2.2)
        have hsw := hwr.size
        clear hwr hown
        obtain ⟨xr, hxr⟩ := ExtW.of (Ext.refl wr)
        conv => arg 5; rw [hxr]
        clear hxr
        by_cases htl : t < S.stock.length
        · go_wp2
          go_loopw [10, 11] (fun a i wr2 => ∃ k : Nat, k ≤ Ls.length ∧ i = .int .i64 k ∧ a = .bool (bP (AlwQ S Ls m n t k)) ∧ ∃ y : ExtW wr, wr2 = y.w) (fun _ i _ => Ls.length - (intOf i).toNat)
          case atStart => exact ⟨0, by omega, rfl, by rw [bP_t]; intro i hi hk; omega, xr, rfl⟩
          case round =>
            obtain ⟨k, hk, rfl, rfl, y, rfl⟩ := hrel
            by_cases hlt : k < Ls.length
            · have hqs := alwQ_succ (S := S) (m := m) (b := n) (t := t) hlt
              obtain ⟨b, o, p, c', he, hc, hl⟩ := HPW.out k hlt
              subst he
              have hln := HLN.out k hlt
              have hnL : n < Ls[k].length := by omega
              obtain ⟨b2, o2, q2, c2', he2, hc2, hq2⟩ := hl.at n hnL
              subst he2
              have hr := HLR.out k hlt n hnL
              rw [getD_of_lt _ _ _ hnL] at hqs
              have s2 := ExtW.cell hc
              have s3 := ExtW.cell hc2
              have hC1 := fun y : ExtW wr => ExtW.call (HEA.out y.w (HWR.out.trans y.h) k hlt (some ⟨b2, o2, none⟩) c' (hl.ext y.h))
              have hC2 := fun y : ExtW wr => rin07 q2 Ls[k][n] c2' (t : Int) y.w (by omega) (hq2.ext y.h)
              obtain ⟨z, hz⟩ : ∃ z, z = earnsAll S Ls[k] := ⟨_, rfl⟩
              obtain ⟨L, hL⟩ : ∃ L, L = Ls[k].length := ⟨_, rfl⟩
              obtain ⟨R, hR⟩ : ∃ R, R = Ls[k][n] := ⟨_, rfl⟩
              rw [← hz, ← hR] at hqs
              rw [← hz] at hC1
              rw [← hL] at hC1 s2 hnL
              rw [← hR] at hC2 s3
              have HQS := Lib.hid hqs
              have HC1 := Lib.hid hC1
              clear hqs hc hl hc2 hq2 hr hln hz hL hR hC1
              by_cases hQ : AlwQ S Ls m n t k
              case neg =>
                have HN := Lib.hid hQ
                have hd := bP_f hQ
                rw [hd]
                clear hQ hd hC2
                go_upto_region 17 with (fail)
                refine wp_region_extW (by kernel_rfl) (by kernel_rfl) ?_
                repeat (go_big_quiet_step (fail))
                refine wpQuiet_nil ?_
                rintro _ ⟨y2, rfl⟩
                go_wp2
                go_roundw
                case rel => exact ⟨k + 1, by omega, by go_num, by rw [bP_f (fun h => HN.out (HQS.out.1 h).1)], y2, rfl⟩
                case measure => simp [intOf]; omega
              have HN := Lib.hid hQ
              have hd := bP_t hQ
              rw [hd]
              clear hQ hd
              by_cases hlm : z < m
              · have hd2 : decide (z < m) = true := by simpa using hlm
                have HLM := Lib.hid hlm
                clear hlm hC2
                go_upto_region 17 with (fail)
                refine wp_region_extW (by kernel_rfl) (by kernel_rfl) ?_
                repeat (go_big_quiet_step ((go_at_call 21; exact HC1.out _)))
                refine wpQuiet_nil ?_
                rintro _ ⟨y2, rfl⟩
                go_wp2
                go_roundw
                case rel => exact ⟨k + 1, by omega, by go_num, by rw [bP_t (HQS.out.2 ⟨HN.out, Or.inl HLM.out⟩)], y2, rfl⟩
                case measure => simp [intOf]; omega
              · have hd2 : decide (z < m) = false := by simpa using hlm
                have HLM := Lib.hid hlm
                clear hlm
                by_cases hin : (t : Int) ∈ R
                · have HC2 := Lib.hid (fun y : ExtW wr => ExtW.call (RetQ.e (RetQ.bt hin (hC2 y))))
                  have HIN := Lib.hid hin
                  clear hin hC2
                  go_upto_region 17 with (fail)
                  refine wp_region_extW (by kernel_rfl) (by kernel_rfl) ?_
                  repeat (go_big_quiet_step (first | (go_at_call 21; exact HC1.out _) | (go_at_call 78; exact HC2.out _)))
                  refine wpQuiet_nil ?_
                  rintro _ ⟨y2, rfl⟩
                  go_wp2
                  go_roundw
                  case rel => exact ⟨k + 1, by omega, by go_num, by rw [bP_t (HQS.out.2 ⟨HN.out, Or.inr HIN.out⟩)], y2, rfl⟩
                  case measure => simp [intOf]; omega
                · have HC2 := Lib.hid (fun y : ExtW wr => ExtW.call (RetQ.e (RetQ.bf hin (hC2 y))))
                  have HIN := Lib.hid hin
                  clear hin hC2
                  go_upto_region 17 with (fail)
                  refine wp_region_extW (by kernel_rfl) (by kernel_rfl) ?_
                  repeat (go_big_quiet_step (first | (go_at_call 21; exact HC1.out _) | (go_at_call 78; exact HC2.out _)))
                  refine wpQuiet_nil ?_
                  rintro _ ⟨y2, rfl⟩
                  go_wp2
                  go_roundw
                  case rel => exact ⟨k + 1, by omega, by go_num, by rw [bP_f (fun h => (HQS.out.1 h).2.elim HLM.out HIN.out)], y2, rfl⟩
                  case measure => simp [intOf]; omega
            · obtain rfl : k = Ls.length := by omega
              have hqa := HQA.out n t
              have hts := ralwTo_succ S n t
              obtain ⟨A, hA⟩ : ∃ A, A = ralwB S n ++ ralwTo S n t := ⟨_, rfl⟩
              have hAl : A.length ≤ 100 := by
                have h1 := ralwB_len S n
                have h2 := ralwTo_len S n t
                have h3 : n * S.stock.length ≤ 3 * 6 := Nat.mul_le_mul (by omega) hs6
                rw [hA, List.length_append]
                omega
              have hAs : ralwB S n ++ ralwTo S n (t + 1) = A ++ if bP (RAlw S n t) = true then [((n : Int), (t : Int))] else [] := by rw [hts, ← List.append_assoc, hA]
              rw [← hA] at HO
              have HO2 := Lib.hid (ownsRow_ext HO.out y.h)
              have HAS := Lib.hid hAs
              have hyw := y.h.size
              have HY := Lib.hid y.h
              clear hts hA hAs HO
              by_cases hr : RAlw S n t
              · rw [bP_t (hqa.2 hr)]
                have HR := Lib.hid hr
                clear hqa hr
                go_wp2_with (at_builtin; refine wpList_append_lies _ rfl (.tmp 65) (.tmp 69) 24 rfl w3.heap.size 45 i2 (.agg #[.int .i64 0, .int .i64 0]) 2 16 Try.underlying24 hi2 hz2 hy2 hb2 rfl (by decide) _ A.length _ rfl (HO2.out.alloc _) ⟨y.w.heap.size, 0, none⟩ 1 1 [.int .i64 n, .int .i64 t] rfl rfl ?c1 ?c2 (by decide) ?c3 ?c4 ?c5 (y.w.heap.size + 1) (size_alloc _ _) ?_)
                case c1 =>
                  intro j u hj
                  match j, hj with
                  | 0, hj => simp at hj; subst hj; simp [Addr.add]
                  | 1, hj => simp at hj; subst hj; simp [Addr.add]
                case c2 => intro u hu; simp at hu; rcases hu with rfl | rfl <;> rfl
                case c3 => unfold maxLen; omega
                case c4 => omega
                case c5 => rw [size_alloc]; omega
                intro g4 cap4 w4 hown4 hgr4 hat4 hlt4
                have hE4 : Ext w3 w4 := Below.grown ((HH.out.trans HY.out).alloc _) hgr4 (by rw [size_alloc]; omega) (fun j hj => (HO2.out.lt j hj).1)
                have HO4 := Lib.hid hown4
                have HE4 := Lib.hid hE4
                clear hown4 hgr4 hat4 hlt4 hE4
                go_wp2
                go_roundw
                case rel => exact ⟨t + 1, by omega, by go_num, HE4.out, by rw [HAS.out, if_pos (bP_t HR.out), pairVs_append, List.length_append]; exact HO4.out⟩
                case measure => simp [intOf]; omega
              · rw [bP_f (fun h => hr (hqa.1 h))]
                have HR := Lib.hid hr
                clear hqa hr
                go_wp2
                go_roundw
                case rel => exact ⟨t + 1, by omega, by go_num, HH.out.trans HY.out, by rw [HAS.out, if_neg (by rw [bP_iff]; exact HR.out), List.append_nil]; exact HO2.out⟩
                case measure => simp [intOf]; omega
        · obtain rfl : t = S.stock.length := by omega
          have hB := ralwB_succ S n
          have HBS := Lib.hid hB
          clear hB
          go_wp2
          go_roundw
          case rel => exact ⟨n + 1, by omega, by go_num, HH.out.trans xr.h, by rw [HBS.out]; exact ownsRow_ext HO.out xr.h⟩
          case measure => simp [intOf]; omega
    · obtain rfl : n = S.boxes.length := by omega
      obtain ⟨p, c, hu, hp⟩ := own_pairs HO.out
      have hl : ralwB S S.boxes.length = alwL S := HRA.out
      rw [hl] at hu hp
      subst hu
      have HP := Lib.hid hp
      clear hl hp
      go_wp2
      go_ret2
      exact Or.inl ⟨HS.out, p, c, rfl, HP.out, HEW.out.trans HWR.out⟩
end Go.Proofs.Ytpgjkmjejpfkmaa
