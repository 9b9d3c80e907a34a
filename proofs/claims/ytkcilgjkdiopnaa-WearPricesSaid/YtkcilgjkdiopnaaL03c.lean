/- The walk of works of shellaclaw03. -/
import Derived.Test.YtkcilgjkdiopnaaL03b
import Derived.Test.YtkcilgjkdiopnaaW3q
import Derived.Deep.RegionHeld3
namespace Go.Proofs.Ytkcilgjkdiopnaa
open Go.RowKit

set_option maxRecDepth 20000 in
theorem make3 (w : World) : (Instr.makeSlice 26 (.int .i64 3) (.int .i64 3)).run Try.prog w = .ok (.slice (some ⟨w.heap.size, 0, none⟩) 3 3) (w.alloc (.cells #[.int .i64 0, .slice none 0 0, .int .i64 0, .slice none 0 0, .int .i64 0, .slice none 0 0] 61)) := by
  have hi : (Try.prog.info? 61).map (fun i => (i.zero, i.size, i.bytes)) = some (some (.agg #[.int .i64 0, .slice none 0 0]), 2, 32) := by kernel_rfl
  obtain ⟨i, hi, hzz⟩ := Option.map_eq_some_iff.1 hi
  simp only [Prod.mk.injEq] at hzz
  obtain ⟨hz, hs, hb⟩ := hzz
  have hr := run_make (P := Try.prog) w 26 61 i _ Try.underlying26 hi hz .i64 .i64 3 3 (by omega) (Int.le_refl _) (by rw [hb]; decide) (by omega)
  rw [hr]
  simp [hs, madeCells, Value.cells, show Array.range 6 = #[0, 1, 2, 3, 4, 5] from by decide]
set_option maxRecDepth 20000 in
set_option maxHeartbeats 1600000 in
theorem works03 (w : World) : Calls Try.prog 16 #[] w (RetE (.bool true) w) := by
  go_enter Try.func16, Try.ntmps16
  go_wp2_with fail
  refine (Example03 _).mono ?_
  rintro e W1 ⟨v, pq, rfl, hE1, hv, hP⟩
  have HV := Lib.hid hv
  have HP := Lib.hid hP
  obtain ⟨p, cp, q, d, rfl, hG, hR⟩ := hv
  clear hP hG hR
  go_upto_region 2 with (fail)
  have hn := heap_new W1 (.cells #[.int .i64 exX.weeks, .int .i64 exX.price, .int .i64 exX.age, .int .i64 exX.step, .slice p exX.rough.length cp, .slice q exX.recs.length d] 25)
  obtain ⟨W, hW⟩ : ∃ W, W = W1.alloc (.cells #[.int .i64 exX.weeks, .int .i64 exX.price, .int .i64 exX.age, .int .i64 exX.step, .slice p exX.rough.length cp, .slice q exX.recs.length d] 25) := ⟨_, rfl⟩
  have hE : Ext W1 W := by rw [hW]; exact Ext.alloc (Ext.refl W1) _
  rw [← hW] at hn ⊢
  have hB : ∀ z, Ext W z → z.cell? ⟨W1.heap.size, 0, none⟩ = some (.int .i64 exX.weeks) ∧ z.cell? ⟨W1.heap.size, 1, none⟩ = some (.int .i64 exX.price) ∧ z.cell? ⟨W1.heap.size, 2, none⟩ = some (.int .i64 exX.age) ∧ z.cell? ⟨W1.heap.size, 3, none⟩ = some (.int .i64 exX.step) ∧ z.cell? ⟨W1.heap.size, 4, none⟩ = some (.slice p exX.rough.length cp) ∧ z.cell? ⟨W1.heap.size, 5, none⟩ = some (.slice q exX.recs.length d) := fun z hz =>
    ⟨hz.cell ((cell_of_heap hn 0).trans rfl), hz.cell ((cell_of_heap hn 1).trans rfl), hz.cell ((cell_of_heap hn 2).trans rfl), hz.cell ((cell_of_heap hn 3).trans rfl), hz.cell ((cell_of_heap hn 4).trans rfl), hz.cell ((cell_of_heap hn 5).trans rfl)⟩
  have HB := Lib.hid hB
  have HE := Lib.hid hE
  have q0 : W.cell? ⟨W1.heap.size, 0, none⟩ = some (.int .i64 exX.weeks) := (cell_of_heap hn 0).trans rfl
  have q1 : W.cell? ⟨W1.heap.size, 1, none⟩ = some (.int .i64 exX.price) := (cell_of_heap hn 1).trans rfl
  have q2 : W.cell? ⟨W1.heap.size, 2, none⟩ = some (.int .i64 exX.age) := (cell_of_heap hn 2).trans rfl
  have q3 : W.cell? ⟨W1.heap.size, 3, none⟩ = some (.int .i64 exX.step) := (cell_of_heap hn 3).trans rfl
  have q4 : W.cell? ⟨W1.heap.size, 4, none⟩ = some (.slice p exX.rough.length cp) := (cell_of_heap hn 4).trans rfl
  have q5 : W.cell? ⟨W1.heap.size, 5, none⟩ = some (.slice q exX.recs.length d) := (cell_of_heap hn 5).trans rfl
  clear hW hn hE hB
  obtain ⟨B, hBB⟩ : ∃ B, B = W1.heap.size := ⟨_, rfl⟩
  rw [← hBB] at HB q0 q1 q2 q3 q4 q5 ⊢
  clear hBB
  have HRun : Hid (Calls Try.prog 21 #[.agg #[.int .i64 exX.weeks, .int .i64 exX.price, .int .i64 exX.age, .int .i64 exX.step, .slice p exX.rough.length cp, .slice q exX.recs.length d], .slice pq 3 3] W (fun e w' => Ext W w' ∧ ∃ u c, e = .returned (.tuple #[.slice u 2 c, .int .i64 15, .int .i64 100, .int .i64 0]) ∧ IntsAt w' u [30, 35])) := Lib.hid (by
    refine (Run03 _ exX pq exP 3 W (WrV.mono _ _ _ _ HE.out HV.out) ex_modest (by decide) (by decide) (HP.out.ext HE.out)).mono ?_
    rintro e w' ⟨hE2, (⟨hx1, hx2, ⟨u, rfl, hu⟩⟩ | ⟨hx1, hx2, rfl⟩ | ⟨hx1, rfl⟩)⟩
    · obtain ⟨h1, h2, h3⟩ := ex_run
      rw [show exP.length = 3 from rfl, show exX.recs.length = 2 from rfl, h1] at hu
      obtain ⟨u', c', rfl, hu⟩ := hu
      refine ⟨hE2, u', c', ?_, hu⟩
      rw [show exP.length = 3 from rfl, h2, h3]
      rfl
    · exact absurd ex_planP hx2
    · exact absurd ex_validW hx1)
  have HC : Hid (∀ z, Ext W z → _) := Lib.hid (fun z hz => ex_cheapV ▸ Cheapest03 _ exX z (WrV.mono _ _ _ _ (HE.out.trans hz) HV.out) ex_validW ex_modest)
  have HWo : Hid (∀ z, Ext W z → _) := Lib.hid (fun z hz => ex_worthV ▸ Worth03 _ exX z (WrV.mono _ _ _ _ (HE.out.trans hz) HV.out) ex_validW ex_modest)
  have HL : Hid (∀ z, Ext W z → _) := Lib.hid (fun z hz => ex_lastV ▸ Last03 _ exX 29 z (WrV.mono _ _ _ _ (HE.out.trans hz) HV.out) ex_validW ex_modest)
  have HGo : Hid (∀ z (b : Nat), Ext W z → WksAt z (some ⟨b, 0, none⟩) exZ → _) := Lib.hid (fun z b hz h => ex_goodV ▸ Good03 _ exX (some ⟨b, 0, none⟩) exZ 3 z (WrV.mono _ _ _ _ (HE.out.trans hz) HV.out) ex_modest (by decide) (by decide) h)
  have HS : Hid (∀ z (u : Option Addr) (c : Nat), IntsAt z u [30, 35] → ∀ b, IntsAt z (some ⟨b, 0, none⟩) [30, 35] → _) := Lib.hid (fun z u c hu b hb => bP_t (rfl : ([30, 35] : List Int) = [30, 35]) ▸ SameInts01 u (some ⟨b, 0, none⟩) [30, 35] [30, 35] c 2 z (by decide) (by decide) hu hb)
  have HE1 := Lib.hid hE1
  clear hE1
  go_upto_region 3 with (go_at_call 21; refine HRun.out.mono ?_; rintro e W2 ⟨hE2, u, uc, rfl, hu⟩)
  have HU := Lib.hid hu
  have HE2 := Lib.hid hE2
  clear q0 q1 q2 q3 q4 q5 hu hE2
  obtain ⟨q0, q1, q2, q3, q4, q5⟩ := HB.out W2 HE2.out
  go_upto_region 4 with (go_at_call 36; refine (HC.out _ HE2.out).mono ?_; rintro e W3 ⟨rfl, hE3⟩)
  have HE3 := Lib.hid (HE2.out.trans hE3)
  have HU3 := Lib.hid (HU.out.ext hE3)
  clear q0 q1 q2 q3 q4 q5 hE3
  obtain ⟨q0, q1, q2, q3, q4, q5⟩ := HB.out W3 HE3.out
  go_upto_region 5 with (go_at_call 28; refine (HWo.out _ HE3.out).mono ?_; rintro e W4 ⟨rfl, hE4⟩)
  have HE4 := Lib.hid (HE3.out.trans hE4)
  have HU4 := Lib.hid (HU3.out.ext hE4)
  clear q0 q1 q2 q3 q4 q5 hE4
  refine wp_region_heldT (fun z => (z.cell? ⟨B, 0, none⟩ = some (.int .i64 exX.weeks) ∧ z.cell? ⟨B, 1, none⟩ = some (.int .i64 exX.price) ∧ z.cell? ⟨B, 2, none⟩ = some (.int .i64 exX.age) ∧ z.cell? ⟨B, 3, none⟩ = some (.int .i64 exX.step) ∧ z.cell? ⟨B, 4, none⟩ = some (.slice p exX.rough.length cp) ∧ z.cell? ⟨B, 5, none⟩ = some (.slice q exX.recs.length d))) 9 [(true, 0), (false, 1), (false, 2), (true, 3), (true, 4), (true, 5), (true, 6), (true, 7), (true, 8)] (by kernel_rfl) (by kernel_rfl) (HB.out _ HE4.out.drew) ?_
  simp only [List.map_cons, List.map_nil, List.getElem?_cons_zero, List.getElem?_cons_succ]
  repeat (refine wpHL_take (v := ?_) (by rfl) ?_ (fun _ _ _ h => h) ?_; rotate_left 1; (intro z hz; (try dsimp only at hz); go_simp; (try with_reducible rfl)); simp only [Act.put, List.setIfInBounds_toArray, List.set_cons_zero, List.set_cons_succ])
  refine wpHL_step (fun K hK => ?_)
  have hmk := make3
  go_simp
  have hn5 := heap_new W4.drew (.cells #[.int .i64 0, .slice none 0 0, .int .i64 0, .slice none 0 0, .int .i64 0, .slice none 0 0] 61)
  have hE5 : Ext W (W4.drew.alloc (.cells #[.int .i64 0, .slice none 0 0, .int .i64 0, .slice none 0 0, .int .i64 0, .slice none 0 0] 61)) := Ext.alloc HE4.out.drew _
  have hz5 : WksAt (W4.drew.alloc (.cells #[.int .i64 0, .slice none 0 0, .int .i64 0, .slice none 0 0, .int .i64 0, .slice none 0 0] 61)) (some ⟨W4.drew.heap.size, 0, none⟩) exZ := by
    rintro (_ | _ | _ | i) hi
    · exact ⟨_, 0, none, 0, rfl, cell_of_heap hn5 0, cell_of_heap hn5 1, IntsAt.nil _ _⟩
    · exact ⟨_, 0, none, 0, rfl, cell_of_heap hn5 2, cell_of_heap hn5 3, IntsAt.nil _ _⟩
    · exact ⟨_, 0, none, 0, rfl, cell_of_heap hn5 4, cell_of_heap hn5 5, IntsAt.nil _ _⟩
    · exact absurd hi (by simp [exZ])
  refine hK.out _ _ (HB.out _ hE5) ?_
  clear hK K
  try simp only [Act.put, List.setIfInBounds_toArray, List.set_cons_zero, List.set_cons_succ]
  refine wpHL_step (fun K hK => ?_)
  go_simp
  refine (HGo.out _ _ hE5 hz5).mono ?_
  rintro e W5 ⟨rfl, hE6⟩
  refine hK.out _ _ (HB.out _ (hE5.trans hE6)) ?_
  clear hK K hn5 hz5
  have HE5 := Lib.hid (hE5.trans hE6)
  have HU5 := Lib.hid (HU4.out.ext ((Ext.alloc (Ext.refl _).drew _).trans hE6))
  clear hE5 hE6
  try simp only [Act.put, List.setIfInBounds_toArray, List.set_cons_zero, List.set_cons_succ]
  repeat (refine wpHL_take (v := ?_) (by rfl) ?_ (fun _ _ _ h => h) ?_; rotate_left 1; (intro z hz; (try dsimp only at hz); go_simp; (try with_reducible rfl)); simp only [Act.put, List.setIfInBounds_toArray, List.set_cons_zero, List.set_cons_succ])
  refine wpHL_nil ?_
  simp only [List.drop_succ_cons, List.drop_zero]
  obtain ⟨q0, q1, q2, q3, q4, q5⟩ := HB.out W5 HE5.out
  go_upto_region 7 with (go_at_call 30; refine (HL.out _ HE5.out).mono ?_; rintro e W6 ⟨rfl, hE6⟩)
  have HE6 := Lib.hid ((HE1.out.trans HE.out).trans (HE5.out.trans hE6))
  have HU6 := Lib.hid (HU5.out.ext hE6)
  clear q0 q1 q2 q3 q4 q5 hE6
  have hn7 := heap_new W6 (.cells #[.int .i64 30, .int .i64 35] 3)
  have HS7 := Lib.hid (HS.out (W6.alloc (.cells #[.int .i64 30, .int .i64 35] 3)) u uc (HU6.out.ext (Ext.alloc (Ext.refl _) _)) _ (IntsAt.cells [30, 35] hn7))
  clear hn7
  go_wp2_with (go_at_call 25; refine HS7.out.mono ?_; rintro e W7 ⟨rfl, hQ7⟩)
  go_ret
  obtain ⟨m, rfl⟩ := hQ7
  exact RetE.fin (Ext.trans (Ext.alloc HE6.out _) (Qt.ext ⟨m, rfl⟩)) rfl
end Go.Proofs.Ytkcilgjkdiopnaa
