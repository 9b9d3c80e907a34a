/- The walks of Example and works. -/
import Derived.Test.YtpgjkmjejpfkmaaL07d
import Derived.Test.YtpgjkmjejpfkmaaW07n
namespace Go.Proofs.Ytpgjkmjejpfkmaa
open Go.RowKit

theorem heap_old {w : World} {b : Nat} {x : Obj} (o : Obj) (h : w.heap[b]? = some x) : (w.alloc o).heap[b]? = some x := by
  obtain ⟨hb, h'⟩ := Array.getElem?_eq_some_iff.1 h
  show (w.heap.push o)[b]? = some x
  rw [Array.getElem?_push_lt hb, h']
theorem heap_newN {w : World} {b : Nat} (o : Obj) (h : b = w.heap.size) : (w.alloc o).heap[b]? = some o := by rw [h]; exact heap_new w o
theorem size_alloc (w : World) (o : Obj) : (w.alloc o).heap.size = w.heap.size + 1 := by show (w.heap.push o).size = _; simp
theorem IntsAt.cells {w : World} {b : Nat} {t : TypeId} {f : Nat × Nat} (l : List Int) (h : w.heap[b]? = some (.cells (l.map (Value.int .i64)).toArray t f)) : IntsAt w (some ⟨b, 0, none⟩) l := by
  intro i hi
  refine ⟨b, 0, _, rfl, ?_, rfl⟩
  rw [cell_of_heap h]
  simp [hi]
theorem IntsV.cells {w : World} {b : Nat} {t : TypeId} {f : Nat × Nat} (l : List Int) (n : Nat) (hn : n = l.length) (h : w.heap[b]? = some (.cells (l.map (Value.int .i64)).toArray t f)) : IntsV w (.slice (some ⟨b, 0, none⟩) n n) l := by
  subst hn; exact ⟨_, _, rfl, IntsAt.cells l h⟩

theorem chain10 {Q : World → Prop} (w : World) (o0 o1 o2 o3 o4 o5 o6 o7 o8 o9 : Obj) (h : ∀ W, Ext w W → W.heap[w.heap.size]? = some o0 → W.heap[w.heap.size + 1]? = some o1 → W.heap[w.heap.size + 1 + 1]? = some o2 → W.heap[w.heap.size + 1 + 1 + 1]? = some o3 → W.heap[w.heap.size + 1 + 1 + 1 + 1]? = some o4 → W.heap[w.heap.size + 1 + 1 + 1 + 1 + 1]? = some o5 → W.heap[w.heap.size + 1 + 1 + 1 + 1 + 1 + 1]? = some o6 → W.heap[w.heap.size + 1 + 1 + 1 + 1 + 1 + 1 + 1]? = some o7 → W.heap[w.heap.size + 1 + 1 + 1 + 1 + 1 + 1 + 1 + 1]? = some o8 → W.heap[w.heap.size + 1 + 1 + 1 + 1 + 1 + 1 + 1 + 1 + 1]? = some o9 → Q W) : Q ((((((((((w.alloc o0).alloc o1).alloc o2).alloc o3).alloc o4).alloc o5).alloc o6).alloc o7).alloc o8).alloc o9) := by
  refine h _ ?_ ?_ ?_ ?_ ?_ ?_ ?_ ?_ ?_ ?_ ?_
  · repeat (first | exact Ext.refl _ | refine Ext.alloc ?_ _)
  · refine heap_old _ ?_; refine heap_old _ ?_; refine heap_old _ ?_; refine heap_old _ ?_; refine heap_old _ ?_; refine heap_old _ ?_; refine heap_old _ ?_; refine heap_old _ ?_; refine heap_old _ ?_; exact heap_newN _ rfl
  · refine heap_old _ ?_; refine heap_old _ ?_; refine heap_old _ ?_; refine heap_old _ ?_; refine heap_old _ ?_; refine heap_old _ ?_; refine heap_old _ ?_; refine heap_old _ ?_; exact heap_newN _ (by simp only [size_alloc])
  · refine heap_old _ ?_; refine heap_old _ ?_; refine heap_old _ ?_; refine heap_old _ ?_; refine heap_old _ ?_; refine heap_old _ ?_; refine heap_old _ ?_; exact heap_newN _ (by simp only [size_alloc])
  · refine heap_old _ ?_; refine heap_old _ ?_; refine heap_old _ ?_; refine heap_old _ ?_; refine heap_old _ ?_; refine heap_old _ ?_; exact heap_newN _ (by simp only [size_alloc])
  · refine heap_old _ ?_; refine heap_old _ ?_; refine heap_old _ ?_; refine heap_old _ ?_; refine heap_old _ ?_; exact heap_newN _ (by simp only [size_alloc])
  · refine heap_old _ ?_; refine heap_old _ ?_; refine heap_old _ ?_; refine heap_old _ ?_; exact heap_newN _ (by simp only [size_alloc])
  · refine heap_old _ ?_; refine heap_old _ ?_; refine heap_old _ ?_; exact heap_newN _ (by simp only [size_alloc])
  · refine heap_old _ ?_; refine heap_old _ ?_; exact heap_newN _ (by simp only [size_alloc])
  · refine heap_old _ ?_; exact heap_newN _ (by simp only [size_alloc])
  · exact heap_newN _ (by simp only [size_alloc])

theorem Example07 (w : World) : Calls Try.prog 52 #[] w (fun e w' => ∃ v, e = .returned v ∧ Ext w w' ∧ SwapV w' v exS) := by
  go_enter Try.func52, Try.ntmps52
  go_wp2
  refine chain10 (Q := bodyPost Try.prog _ _ _ _) w _ _ _ _ _ _ _ _ _ _ ?_
  intro W hE h0 h1 h2 h3 h4 h5 h6 h7 h8 h9
  have c0 : W.cell? ⟨w.heap.size, 0, none⟩ = some (.slice (some ⟨w.heap.size + 1 + 1 + 1, 0, none⟩) 2 2) := cell_of_heap h0 0
  have c1 : W.cell? ⟨w.heap.size, 1, none⟩ = some (.slice (some ⟨w.heap.size + 1 + 1 + 1 + 1, 0, none⟩) 4 4) := cell_of_heap h0 1
  have c2 : W.cell? ⟨w.heap.size, 2, none⟩ = some (.slice (some ⟨w.heap.size + 1 + 1 + 1 + 1 + 1 + 1 + 1 + 1 + 1, 0, none⟩) 4 4) := cell_of_heap h0 2
  have c3 : W.cell? ⟨w.heap.size, 3, none⟩ = some (.slice none 0 0) := cell_of_heap h0 3
  have c4 : W.cell? ⟨w.heap.size, 4, none⟩ = some (.int .i64 1) := cell_of_heap h0 4
  refine bodyPost_ret (v := .agg #[.slice (some ⟨w.heap.size + 1 + 1 + 1, 0, none⟩) 2 2, .slice (some ⟨w.heap.size + 1 + 1 + 1 + 1, 0, none⟩) 4 4, .slice (some ⟨w.heap.size + 1 + 1 + 1 + 1 + 1 + 1 + 1 + 1 + 1, 0, none⟩) 4 4, .slice none 0 0, .int .i64 1]) ?_ rfl ⟨_, rfl, hE, ?_⟩
  · simp [results, Try.results52, go_sem, c0, c1, c2, c3, c4]
  · refine ⟨_, _, _, _, _, _, _, _, rfl, ?_, ?_, ?_, ?_⟩
    · rintro (_ | _ | i) hi
      · exact ⟨_, _, _, rfl, cell_of_heap h3 0, IntsV.cells _ 2 rfl h1⟩
      · exact ⟨_, _, _, rfl, cell_of_heap h3 1, IntsV.cells _ 2 rfl h2⟩
      · exact absurd hi (by simp [exS])
    · exact IntsAt.cells exS.stock h4
    · rintro (_ | _ | _ | _ | i) hi
      · exact ⟨_, _, _, rfl, cell_of_heap h9 0, IntsV.cells _ 2 rfl h5⟩
      · exact ⟨_, _, _, rfl, cell_of_heap h9 1, IntsV.cells _ 2 rfl h6⟩
      · exact ⟨_, _, _, rfl, cell_of_heap h9 2, IntsV.cells _ 2 rfl h7⟩
      · exact ⟨_, _, _, rfl, cell_of_heap h9 3, IntsV.cells _ 2 rfl h8⟩
      · exact absurd hi (by simp [exS])
    · exact PairsAt.nil _ _
end Go.Proofs.Ytpgjkmjejpfkmaa
