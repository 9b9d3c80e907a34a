/- The walk of Example of shellaclaw03. -/
import Derived.Test.YtkcilgjkdiopnaaW3t
import Derived.Test.YtkcilgjkdiopnaaW01
namespace Go.Proofs.Ytkcilgjkdiopnaa
open Go.RowKit

theorem heap_newN {w : World} {b : Nat} (o : Obj) (h : b = w.heap.size) : (w.alloc o).heap[b]? = some o := by rw [h]; exact heap_new w o
theorem chain6 {Q : World → Prop} (w : World) (o0 o1 o2 o3 o4 o5 : Obj) (h : ∀ W, Ext w W → W.heap[w.heap.size]? = some o0 → W.heap[w.heap.size + 1]? = some o1 → W.heap[w.heap.size + 1 + 1]? = some o2 → W.heap[w.heap.size + 1 + 1 + 1]? = some o3 → W.heap[w.heap.size + 1 + 1 + 1 + 1]? = some o4 → W.heap[w.heap.size + 1 + 1 + 1 + 1 + 1]? = some o5 → Q W) : Q ((((((w.alloc o0).alloc o1).alloc o2).alloc o3).alloc o4).alloc o5) := by
  refine h _ ?_ ?_ ?_ ?_ ?_ ?_ ?_
  · repeat (first | exact Ext.refl _ | refine Ext.alloc ?_ _)
  · refine heap_old _ ?_; refine heap_old _ ?_; refine heap_old _ ?_; refine heap_old _ ?_; refine heap_old _ ?_; exact heap_newN _ rfl
  · refine heap_old _ ?_; refine heap_old _ ?_; refine heap_old _ ?_; refine heap_old _ ?_; exact heap_newN _ (by simp only [size_alloc])
  · refine heap_old _ ?_; refine heap_old _ ?_; refine heap_old _ ?_; exact heap_newN _ (by simp only [size_alloc])
  · refine heap_old _ ?_; refine heap_old _ ?_; exact heap_newN _ (by simp only [size_alloc])
  · refine heap_old _ ?_; exact heap_newN _ (by simp only [size_alloc])
  · exact heap_newN _ (by simp only [size_alloc])

/-- the box and the plan of the chapter's examples -/
def exX : Wr := ⟨3, 50, 0, 10, [1, 2, 4], [⟨0, 40, 30, [10, 10, 10]⟩, ⟨5, 60, 20, [5, 5, 5]⟩]⟩
def exP : List Wk := [⟨0, []⟩, ⟨1, []⟩, ⟨1, []⟩]
def exZ : List Wk := [⟨0, []⟩, ⟨0, []⟩, ⟨0, []⟩]

theorem Example03 (w : World) : Calls Try.prog 53 #[] w (fun e w' => ∃ v q, e = .returned (.tuple #[v, .slice q 3 3]) ∧ Ext w w' ∧ WrV w' v exX ∧ WksAt w' q exP) := by
  go_enter Try.func53, Try.ntmps53
  go_wp2
  refine chain6 (Q := bodyPost Try.prog _ _ _ _) w _ _ _ _ _ _ ?_
  intro W hE h0 h1 h2 h3 h4 h5
  refine bodyPost_ret (v := .tuple #[.agg #[.int .i64 3, .int .i64 50, .int .i64 0, .int .i64 10, .slice (some ⟨w.heap.size + 1, 0, none⟩) 3 3, .slice (some ⟨w.heap.size + 1 + 1 + 1 + 1, 0, none⟩) 2 2], .slice (some ⟨w.heap.size + 1 + 1 + 1 + 1 + 1, 0, none⟩) 3 3]) ?_ rfl ⟨_, _, rfl, hE, ?_, ?_⟩
  · have c0 := cell_of_heap h0 0
    have c1 := cell_of_heap h0 1
    have c2 := cell_of_heap h0 2
    have c3 := cell_of_heap h0 3
    have c4 := cell_of_heap h0 4
    have c5 := cell_of_heap h0 5
    simp at c0 c1 c2 c3 c4 c5
    simp [results, Try.results53, go_sem, c0, c1, c2, c3, c4, c5]
  · refine ⟨_, _, _, _, rfl, IntsAt.cells exX.rough h1, ?_⟩
    rintro (_ | _ | i) hi
    · exact ⟨_, 0, _, 3, rfl, cell_of_heap h4 0, cell_of_heap h4 1, cell_of_heap h4 2, cell_of_heap h4 3, IntsAt.cells [10, 10, 10] h2⟩
    · exact ⟨_, 0, _, 3, rfl, cell_of_heap h4 4, cell_of_heap h4 5, cell_of_heap h4 6, cell_of_heap h4 7, IntsAt.cells [5, 5, 5] h3⟩
    · exact absurd hi (by simp [exX])
  · rintro (_ | _ | _ | i) hi
    · exact ⟨_, 0, none, 0, rfl, cell_of_heap h5 0, cell_of_heap h5 1, IntsAt.nil _ _⟩
    · exact ⟨_, 0, none, 0, rfl, cell_of_heap h5 2, cell_of_heap h5 3, IntsAt.nil _ _⟩
    · exact ⟨_, 0, none, 0, rfl, cell_of_heap h5 4, cell_of_heap h5 5, IntsAt.nil _ _⟩
    · exact absurd hi (by simp [exP])
end Go.Proofs.Ytkcilgjkdiopnaa
