/- The walk of best. -/
import Derived.Test.YtpgjkmjejpfkmaaW07e
namespace Go.Proofs.Ytpgjkmjejpfkmaa
open Go.RowKit
attribute [local go_sem] Oper.semAt_some

/-- the most that plans of a list earn, and a plan that does -/
def bestStep (V : Visit) (m : Int × (Nat → Nat)) (q : Nat → Nat) : Int × (Nat → Nat) := if m.1 < sumTo V q V.S.boxes.length then (sumTo V q V.S.boxes.length, q) else m
def bestOf (V : Visit) (L : List (Nat → Nat)) : Int × (Nat → Nat) := L.foldl (bestStep V) (-1, fun _ => 0)
theorem bestOf_snoc (V : Visit) (L : List (Nat → Nat)) (q : Nat → Nat) : bestOf V (L ++ [q]) = bestStep V (bestOf V L) q := by simp [bestOf]

def cellI (n : Int) : Obj := .cells #[.int .i64 n] 3

theorem Ext.trans' {a b c : World} (h : Ext a b) (k : Below a.heap.size b c) : Ext a c := Below.trans h k
theorem Ext.set {a b : World} {c o : Nat} {u : Value} (h : Ext a b) (h0 : a.heap.size ≤ c) : Ext a (b.setCell ⟨c, o, none⟩ u) := h.setCell (p := ⟨c, o, none⟩) h0 u
theorem cell_frozen {w : World} {B : Nat} {cs : Array Value} {t : TypeId} (h : w.heap[B]? = some (.cells cs t (0, 0))) (k : Nat) : w.frozen? ⟨B, k, none⟩ = false := by
  simp [World.frozen?, h]

set_option maxHeartbeats 400000 in
theorem best07 (V : Visit) (hO : VOK V) (b : Nat) (w : World) (hV : VisitAt w b V) :
    Calls Try.prog 54 #[.pointer (some ⟨b, 0, none⟩)] w
      fun e w' => e = .returned (.tuple #[.int .i64 (bestOf V (plansL V V.S.boxes.length (fun _ => 0) 0)).1, pl3 (bestOf V (plansL V V.S.boxes.length (fun _ => 0) 0)).2]) ∧ Ext w w' := by
  refine calls_of_marks Try.func54 rfl ?_
  simp only [Try.ntmps54, List.size_toArray, List.length_cons, List.length_nil, Nat.reduceAdd, Nat.reduceSub, Array.replicate_succ, Array.replicate_zero, List.push_toArray, List.append_toArray, List.nil_append, List.cons_append]
  go_wp2
  obtain ⟨W1, hW⟩ : ∃ W1, W1 = (((w.alloc (.cells #[.pointer (some ⟨b, 0, none⟩)] 80)).alloc (.cells #[.int .i64 (-1)] 3)).alloc (.cells #[.int .u64 0, .int .u64 0, .int .u64 0] 78)) := ⟨_, rfl⟩
  have hE1 : Ext w W1 := by rw [hW]; exact Ext.alloc (Ext.alloc (Ext.alloc (Ext.refl w) _) _) _
  have hs1 : W1.heap.size = w.heap.size + 3 := by rw [hW]; simp
  have hv1 : W1.heap[w.heap.size]? = some (.cells #[.pointer (some ⟨b, 0, none⟩)] 80) := by
    rw [hW, Below.heap_alloc _ _ _ (by simp; omega), Below.heap_alloc _ _ _ (by simp), heap_new]
  have hm1 : W1.heap[w.heap.size + 1]? = some (cellI (-1)) := by
    rw [hW, Below.heap_alloc _ _ _ (by simp)]
    exact (by simp : (w.alloc (.cells #[.pointer (some ⟨b, 0, none⟩)] 80)).heap.size = w.heap.size + 1) ▸ heap_new _ _
  have hp1 : W1.heap[w.heap.size + 1 + 1]? = some (box3 fun _ => 0) := by
    rw [hW]
    exact (by simp : ((w.alloc (.cells #[.pointer (some ⟨b, 0, none⟩)] 80)).alloc (.cells #[.int .i64 (-1)] 3)).heap.size = w.heap.size + 1 + 1) ▸ heap_new _ _
  rw [← hW]
  clear hW
  obtain ⟨L, hL⟩ : ∃ L, L = plansL V V.S.boxes.length (fun _ => 0) 0 := ⟨_, rfl⟩
  refine range_all (fst := #[.pointer (some ⟨b, 0, none⟩)]) (gf := 55) (cap := #[]) rfl Try.call55 pl3 okP L w.heap.size (by omega)
    (fun pre W => W.heap[w.heap.size]? = some (.cells #[.pointer (some ⟨b, 0, none⟩)] 80) ∧ W.heap[w.heap.size + 1]? = some (cellI (bestOf V pre).1) ∧ W.heap[w.heap.size + 1 + 1]? = some (box3 (bestOf V pre).2) ∧ Ext w W)
    ?hI ⟨hv1, hm1, hp1, hE1⟩ ?hiter ?hround ?hdone
  case hI =>
    rintro pre W W' ⟨h1, h2, h3, h4⟩ hb
    exact ⟨(hb.block _ (by omega)).trans h1, (hb.block _ (by omega)).trans h2, (hb.block _ (by omega)).trans h3, Below.trans h4 (hb.mono (by omega))⟩
  case hiter =>
    intro l J hJ hY W hE hs hj
    rw [hL]
    exact each07 V hO b l w.heap.size (W1.heap.size + 2) w hV (Nat.le_refl _) J hJ hY W (hE1.trans hE) hs hj
  case hround =>
    rintro l pre x W hok rfl ⟨h1, h2, h3, h4⟩ hs
    have hn := heap_new W (.cells #[.int .u64 (x 0), .int .u64 (x 1), .int .u64 (x 2)] 78)
    unfold pl3
    gi_wp2
    refine ⟨Ext.alloc (Ext.refl W) _, fun W2 hW2 => ?_⟩
    obtain ⟨W', hW'⟩ : ∃ W', W' = W.alloc (.cells #[.int .u64 (x 0), .int .u64 (x 1), .int .u64 (x 2)] 78) := ⟨_, rfl⟩
    have hEW : Ext W W' := by rw [hW']; exact Ext.alloc (Ext.refl W) _
    rw [← hW'] at hn hW2
    have g1 := (hW2.block w.heap.size (by omega)).trans ((Below.block hEW _ (by omega)).trans h1)
    have g2 := (hW2.block (w.heap.size + 1) (by omega)).trans ((Below.block hEW _ (by omega)).trans h2)
    have g3 := (hW2.block (w.heap.size + 1 + 1) (by omega)).trans ((Below.block hEW _ (by omega)).trans h3)
    have g5 := (hW2.block W.heap.size (by omega)).trans hn
    have g4 : Ext w W2 := (h4.trans hEW).trans' (hW2.below (by omega))
    have hsz : W.heap.size < W2.heap.size := (Array.getElem?_eq_some_iff.1 g5).1
    clear hW' hn h1 h2 h3 h4 hEW hW2 hv1 hm1 hp1 hE1
    obtain ⟨mp, hmp⟩ : ∃ mp, mp = bestOf V pre := ⟨_, rfl⟩
    rw [← hmp] at g2 g3
    have HM := Lib.hid hmp
    clear hmp
    have hc1 := cell_of_heap g1 0
    have hc2 := cell_of_heap g2 0
    have hf2 := cell_frozen g2 0
    have hc30 := box3_cell g3 0 (by decide)
    have hc31 := box3_cell g3 1 (by decide)
    have hc32 := box3_cell g3 2 (by decide)
    have hf30 := box3_frozen g3 0
    have hf31 := box3_frozen g3 1
    have hf32 := box3_frozen g3 2
    have hc50 := box3_cell (g := x) g5 0 (by decide)
    have hc51 := box3_cell (g := x) g5 1 (by decide)
    have hc52 := box3_cell (g := x) g5 2 (by decide)
    simp at hc1 hc2
    have HS := sum07 x b V W2 (hV.ext g4) hO hok
    obtain ⟨n, hn⟩ : ∃ n, n = sumTo V x V.S.boxes.length := ⟨_, rfl⟩
    rw [← hn] at HS
    have HN := Lib.hid hn
    have HS2 := Lib.hid HS
    unfold pl3 at HS2
    clear hn HS
    by_cases hlt : mp.1 < n
    · gi_wp2_with fail
      refine ⟨trivial, rfl, ?_⟩
      refine (CallsIn.inRound _ (callsIn_wide.2 HS2.out)).mono ?_
      rintro e W3 ⟨rfl, hE3⟩
      replace hc1 := hE3.cell hc1
      replace hc2 := hE3.cell hc2
      replace hc50 := hE3.cell hc50
      replace hc51 := hE3.cell hc51
      replace hc52 := hE3.cell hc52
      replace hc30 := hE3.cell hc30
      replace hc31 := hE3.cell hc31
      replace hc32 := hE3.cell hc32
      replace g1 := (Below.block hE3 _ (by omega)).trans g1
      replace g2 := (Below.block hE3 _ (by omega)).trans g2
      replace g3 := (Below.block hE3 _ (by omega)).trans g3
      replace hf2 := cell_frozen g2 0
      replace hf30 := box3_frozen g3 0
      replace hf31 := box3_frozen g3 1
      replace hf32 := box3_frozen g3 2
      gi_wp2
      have hmo : Try.prog.follows .mixedOrders = true := by kernel_rfl
      gi_region_with_o (fail)
      all_goals gi_wp2
      all_goals
        refine and_dep ?_ (fun hx => ⟨?_, ?_, ?_, hx.ext g4 (Nat.le_refl _)⟩)
        · repeat (with_reducible (first | refine ExtI.drew ?_ | refine ExtI.set ?_ (by omega) (by omega) | exact hE3.toI _ _))
        · repeat (with_reducible (first | refine heap_drew ?_ | refine heap_set_ne (by omega) ?_ | exact g1))
        · rw [bestOf_snoc, bestStep, ← HN.out, ← HM.out, if_pos hlt]
          unfold cellI box3 at *
          repeat (with_reducible (first | refine heap_drew ?_ | refine heap_set_ne (by omega) ?_ | apply heap_set | exact g2))
          all_goals rfl
        · rw [bestOf_snoc, bestStep, ← HN.out, ← HM.out, if_pos hlt]
          unfold cellI box3 at *
          repeat (with_reducible (first | refine heap_drew ?_ | refine heap_set_ne (by omega) ?_ | apply heap_set | exact g3))
          all_goals rfl
    · gi_wp2_with fail
      refine ⟨trivial, rfl, ?_⟩
      refine (CallsIn.inRound _ (callsIn_wide.2 HS2.out)).mono ?_
      rintro e W3 ⟨rfl, hE3⟩
      replace hc1 := hE3.cell hc1
      replace hc2 := hE3.cell hc2
      replace g1 := (Below.block hE3 _ (by omega)).trans g1
      replace g2 := (Below.block hE3 _ (by omega)).trans g2
      replace g3 := (Below.block hE3 _ (by omega)).trans g3
      gi_wp2
      refine ⟨hE3.toI _ _, g1, ?_, ?_, g4.trans hE3⟩
      · rw [bestOf_snoc, bestStep, ← HN.out, ← HM.out, if_neg (by omega)]
        exact g2
      · rw [bestOf_snoc, bestStep, ← HN.out, ← HM.out, if_neg (by omega)]
        exact g3
  case hdone =>
    rintro W ⟨h1, h2, h3, h4⟩ hd
    obtain ⟨mp, hmp⟩ : ∃ mp, mp = bestOf V L := ⟨_, rfl⟩
    rw [← hmp] at h2 h3
    have HM := Lib.hid hmp
    clear hmp
    have hc2 := cell_of_heap h2 0
    have hf2 := cell_frozen h2 0
    have hc30 := box3_cell h3 0 (by decide)
    have hc31 := box3_cell h3 1 (by decide)
    have hc32 := box3_cell h3 2 (by decide)
    have hf30 := box3_frozen h3 0
    have hf31 := box3_frozen h3 1
    have hf32 := box3_frozen h3 2
    simp at hc2
    go_wp2
    go_region
    all_goals go_wp2
    all_goals
      refine marks_ret (v := .tuple #[.int .i64 mp.1, pl3 mp.2]) ?_ ?_ ?_
      · repeat (with_reducible (first | refine heap_drew ?_ | refine heap_set_ne (by omega) ?_ | exact hd))
      · intro W' hW'
        have k2 : W'.heap[w.heap.size + 1]? = some (.cells #[.int .i64 mp.1] 3) := by
          rw [hW'.block _ (by omega)]
          unfold cellI at h2
          repeat (with_reducible (first | refine heap_drew ?_ | refine heap_set_ne (by omega) ?_ | apply heap_set | exact h2))
          all_goals rfl
        have k3 : W'.heap[w.heap.size + 1 + 1]? = some (box3 mp.2) := by
          rw [hW'.block _ (by omega)]
          unfold box3 at *
          repeat (with_reducible (first | refine heap_drew ?_ | refine heap_set_ne (by omega) ?_ | apply heap_set | exact h3))
          all_goals rfl
        have e2 := cell_of_heap k2 0
        have e30 := box3_cell k3 0 (by decide)
        have e31 := box3_cell k3 1 (by decide)
        have e32 := box3_cell k3 2 (by decide)
        simp at e2
        simp [results, Try.results54, go_sem, e2, e30, e31, e32, pl3]
      · intro W' hW'
        refine ⟨by rw [HM.out, hL], ?_⟩
        refine Ext.trans' ?_ (hW'.below (by omega))
        repeat (with_reducible (first | refine Ext.drew ?_ | refine Ext.set ?_ (by omega) | exact h4))
end Go.Proofs.Ytpgjkmjejpfkmaa
