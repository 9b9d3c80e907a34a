/- The walk of run: the state at the start, and the function that yields each week. -/
import Derived.Test.YtkcilgjkdiopnaaW3e
import Derived.Test.YtkcilgjkdiopnaaOwn
namespace Go.Proofs.Ytkcilgjkdiopnaa
open Go.RowKit

/-- what the first n records are worn -/
def wornL (n : Nat) (f : Nat → Int) : List Int := (List.range n).map f
theorem wornL_len (n : Nat) (f : Nat → Int) : (wornL n f).length = n := by simp [wornL]
theorem wornL_succ (n : Nat) (f : Nat → Int) : wornL (n + 1) f = wornL n f ++ [f n] := by simp [wornL, List.range_succ]
theorem wornL_get (n : Nat) (f : Nat → Int) (i : Nat) (h : i < n) : (intVs (wornL n f))[i]? = some (.int .i64 (f i)) := by simp [wornL, intVs, h]
theorem wornL_set (n : Nat) (f : Nat → Int) (i : Nat) (m : Int) : (intVs (wornL n f)).set i (.int .i64 m) = intVs (wornL n (updI f i m)) := by
  apply List.ext_getElem?
  intro j
  rw [List.getElem?_set]
  by_cases h : j < n
  · rw [wornL_get _ _ _ h]
    by_cases hi : i = j
    · subst hi
      simp [updI, intVs, wornL, h]
    · rw [if_neg hi, wornL_get _ _ _ h, updI, if_neg (fun e => hi e.symm)]
  · have h1 : (intVs (wornL n (updI f i m)))[j]? = none := by simp [intVs, wornL]; omega
    have h2 : (intVs (wornL n f))[j]? = none := by simp [intVs, wornL]; omega
    rw [h1, h2]
    split
    · next e => subst e; simp [intVs, wornL, h]
    · rfl

/-- the state in block s: what each of n records is worn (a row of its own, from block B on), the age of the needle, the cost -/
def StAt (n B s : Nat) (u : Value) (x : St) (w : World) : Prop :=
  w.heap[s]? = some (.cells #[u, .int .i64 x.age, .int .i64 x.cost] 93 (0, 0)) ∧ w.ownsRow B 3 1 u n (intVs (wornL n x.worn))

/-- the cells of a box as a block -/
def bxO (X : Wr) (p : Option Addr) (c : Nat) (q : Option Addr) (d : Nat) : Obj := .cells #[.int .i64 X.weeks, .int .i64 X.price, .int .i64 X.age, .int .i64 X.step, .slice p X.rough.length c, .slice q X.recs.length d] 88

theorem heap3_0 (w : World) (o u t : Obj) : (((w.alloc o).alloc u).alloc t).heap[w.heap.size]? = some o := heap_old _ (heap_old _ (heap_new w o))
theorem heap3_1 (w : World) (o u t : Obj) : (((w.alloc o).alloc u).alloc t).heap[w.heap.size + 1]? = some u := by
  have := heap_new (w.alloc o) u
  rw [size_alloc] at this
  exact heap_old _ this
theorem heap3_2 (w : World) (o u t : Obj) : (((w.alloc o).alloc u).alloc t).heap[w.heap.size + 2]? = some t := by
  have := heap_new ((w.alloc o).alloc u) t
  simpa only [size_alloc] using this

set_option maxRecDepth 20000 in
set_option maxHeartbeats 3200000 in
theorem run03 (X : Wr) (p q pp : Option Addr) (c d pc pn s : Nat) (w : World)
    (hX : ValidW X) (hs : w.heap[s]? = some (.cells #[.slice none 0 0, .int .i64 0, .int .i64 0] 93 (0, 0))) (hRs : ∀ w', Fr (fun k => k = s) w w' → RecsAt w' q X.recs) :
    Calls Try.prog 59 #[.agg #[.int .i64 X.weeks, .int .i64 X.price, .int .i64 X.age, .int .i64 X.step, .slice p X.rough.length c, .slice q X.recs.length d], .pointer (some ⟨s, 0, none⟩), .slice pp pn pc] w fun e w' =>
      e = .returned (.func (.func 88) #[] #[.pointer (some ⟨w.heap.size + 2, 0, none⟩), .pointer (some ⟨w.heap.size + 1, 0, none⟩), .pointer (some ⟨w.heap.size, 0, none⟩)]) ∧
      w'.heap[w.heap.size]? = some (bxO X p c q d) ∧ w'.heap[w.heap.size + 1]? = some (.cells #[.pointer (some ⟨s, 0, none⟩)] 96) ∧ w'.heap[w.heap.size + 2]? = some (.cells #[.slice pp pn pc] 26) ∧
      (∃ u, StAt X.recs.length (w.heap.size + 3) s u (startW X) w') ∧ Fr (fun k => k = s) w w' := by
  have hsw : s < w.heap.size := (Array.getElem?_eq_some_iff.1 hs).1
  obtain ⟨i0, hi, hz0, hz1, hz2⟩ := info_parts info_a
  have h4 := hX.recs
  have HRS := Lib.hid hRs
  clear hRs
  go_enter Try.func59, Try.ntmps59
  go_upto_region 1 with (fail)
  obtain ⟨W, hW⟩ : ∃ W, W = ((w.alloc (bxO X p c q d)).alloc (.cells #[.pointer (some ⟨s, 0, none⟩)] 96)).alloc (.cells #[.slice pp pn pc] 26) := ⟨_, rfl⟩
  have g0 : W.heap[w.heap.size]? = some (bxO X p c q d) := by rw [hW]; exact heap3_0 _ _ _ _
  have g1 : W.heap[w.heap.size + 1]? = some (.cells #[.pointer (some ⟨s, 0, none⟩)] 96) := by rw [hW]; exact heap3_1 _ _ _ _
  have g2 : W.heap[w.heap.size + 2]? = some (.cells #[.slice pp pn pc] 26) := by rw [hW]; exact heap3_2 _ _ _ _
  have hE : Ext w W := by rw [hW]; exact Ext.alloc (Ext.alloc (Ext.alloc (Ext.refl w) _) _) _
  have hsW : W.heap.size = w.heap.size + 3 := by rw [hW]; simp only [size_alloc]
  have hs1 := (Below.block hE s hsw).trans hs
  unfold bxO at hW g0
  rw [← hW]
  have c0 := cell_of_heap hs1 0
  have c1 := cell_of_heap hs1 1
  have f1 := cell_frozen hs1 1
  have k2 := cell_of_heap g0 2
  have k5 := cell_of_heap g0 5
  have j0 := cell_of_heap g1 0
  simp at c0 c1 k2 k5 j0
  have HS1 := Lib.hid hs1
  have HE := Lib.hid hE
  have HG0 := Lib.hid g0
  have HG1 := Lib.hid g1
  have HG2 := Lib.hid g2
  clear hW hs hs1 hE g0 g1 g2
  go_wp2
  obtain ⟨W1, hW1⟩ : ∃ W1, W1 = W.setCell ⟨s, 1, none⟩ (.int .i64 X.age) := ⟨_, rfl⟩
  rw [← hW1]
  have hs2 : W1.heap[s]? = some (.cells #[.slice none 0 0, .int .i64 X.age, .int .i64 0] 93 (0, 0)) := by rw [hW1]; exact heap_set HS1.out rfl
  have hF1 : Fr (fun k => k = s) W W1 := by rw [hW1]; exact (Fr.refl _ _).set rfl
  have HS2 := Lib.hid hs2
  have HF1 := Lib.hid hF1
  clear hW1 hs2 hF1 c0 c1 f1 HS1
  have q5 : ∀ z, Fr (fun k => k = s) W z → z.cell? ⟨w.heap.size, 5, none⟩ = some (.slice q X.recs.length d) := fun z hz => hz.cell k5 (by omega)
  have q0 : ∀ z, Fr (fun k => k = s) W z → z.cell? ⟨w.heap.size + 1, 0, none⟩ = some (.pointer (some ⟨s, 0, none⟩)) := fun z hz => hz.cell j0 (by omega)
  have Q5 := Lib.hid q5
  have Q0 := Lib.hid q0
  have p5 := q5 W1 HF1.out
  clear q5 q0 k2 k5 j0
  go_wp2
  go_loopw [19] (fun i wr => ∃ k : Nat, k ≤ X.recs.length ∧ i = .int .i64 k ∧ ∃ u, wr.heap[s]? = some (.cells #[u, .int .i64 X.age, .int .i64 0] 93 (0, 0)) ∧ wr.ownsRow (w.heap.size + 3) 3 1 u k (intVs (wornL k (startW X).worn)) ∧ Fr (fun k => k = s) W wr) (fun i _ => X.recs.length - (intOf i).toNat)
  case atStart => exact ⟨0, by omega, rfl, _, HS2.out, World.ownsRow_nil _ _ _ _, HF1.out⟩
  case round =>
    clear p5 HS2 HF1
    clear W1
    obtain ⟨k, hk, rfl, u, hs, ho, hF⟩ := hrel
    have HS := Lib.hid hs
    have HO := Lib.hid ho
    have HF := Lib.hid hF
    have hsr := (Array.getElem?_eq_some_iff.1 hs).1
    have hWr := hF.size
    clear hs ho hF
    by_cases hlt : k < X.recs.length
    · obtain ⟨b, o, q', c', rfl, r1, r2, r3, r4, -⟩ := HRS.out wr ((HE.out.fr _).trans HF.out) k hlt
      have hst : (startW X).worn k = X.recs[k].worn := by simp [startW, recW, List.getD, hlt]
      obtain ⟨rw', hrw⟩ : ∃ n, n = X.recs[k].worn := ⟨_, rfl⟩
      obtain ⟨v2, hv2⟩ : ∃ n, n = X.recs[k].limit := ⟨_, rfl⟩
      obtain ⟨v3, hv3⟩ : ∃ n, n = X.recs[k].price := ⟨_, rfl⟩
      obtain ⟨v4, hv4⟩ : ∃ n, n = X.recs[k].plays.length := ⟨_, rfl⟩
      rw [← hrw] at r1 hst
      rw [← hv2] at r2
      rw [← hv3] at r3
      rw [← hv4] at r4
      have HST := Lib.hid hst
      clear hst hrw hv2 hv3 hv4
      go_upto_region 5 with (fail)
      obtain ⟨W5, hW5⟩ : ∃ W5, W5 = wr.alloc (.cells #[.int .i64 rw', .int .i64 v2, .int .i64 v3, .slice q' v4 c'] 54) := ⟨_, rfl⟩
      have hn := heap_new wr (.cells #[.int .i64 rw', .int .i64 v2, .int .i64 v3, .slice q' v4 c'] 54)
      have hE5 : Ext wr W5 := by rw [hW5]; exact Ext.alloc (Ext.refl _) _
      have hs5 : W5.heap.size = wr.heap.size + 1 := by rw [hW5]; simp only [size_alloc]
      rw [← hW5] at hn ⊢
      have HE5 := Lib.hid hE5
      have hm1 : k + 1 ≤ maxLen := by unfold maxLen; omega
      have hm2 : (k + 1) * 8 ≤ 140737488355328 := by omega
      have HS0 : Hid (∀ z, Ext W5 z → z.cell? ⟨w.heap.size + 1, 0, none⟩ = some (.pointer (some ⟨s, 0, none⟩)) ∧ z.cell? ⟨s, 0, none⟩ = some u ∧ z.cell? ⟨wr.heap.size, 0, none⟩ = some (.int .i64 rw')) := Lib.hid fun z hz =>
        ⟨Q0.out z (HF.out.trans ((hE5.trans hz).fr _)), (hE5.trans hz).cell ((cell_of_heap HS.out 0).trans rfl), hz.cell ((cell_of_heap hn 0).trans rfl)⟩
      obtain ⟨H, hH⟩ : ∃ H, H = wr.heap.size := ⟨_, rfl⟩
      rw [← hH] at HS0 ⊢
      have HH := Lib.hid hH
      have hub : ∀ g, u.ownBlock = some g → g ≠ s ∧ w.heap.size + 3 ≤ g ∧ g < wr.heap.size := fun g hg => by
        have := HO.out.lt g hg
        exact ⟨by omega, this.1, this.2⟩
      have HUB := Lib.hid hub
      clear hW5 hn hE5 r1 r2 r3 r4 hH hub
      refine wp_region_heldT (fun z => z.cell? ⟨w.heap.size + 1, 0, none⟩ = some (.pointer (some ⟨s, 0, none⟩)) ∧ z.cell? ⟨s, 0, none⟩ = some u ∧ z.cell? ⟨H, 0, none⟩ = some (.int .i64 rw')) 11
        [(true, 0), (true, 1), (true, 2), (true, 3), (true, 4), (true, 5), (true, 6), (false, 7), (false, 8), (true, 9), (true, 10)] (by kernel_rfl) (by kernel_rfl) (HS0.out _ (Ext.refl _).drew) ?_
      simp only [List.map_cons, List.map_nil, List.getElem?_cons_zero, List.getElem?_cons_succ]
      repeat (refine wpHL_take (v := ?_) (by rfl) ?_ (fun _ _ _ h => h) ?_; rotate_left 1; (intro z hz; (try dsimp only at hz); go_simp; (try with_reducible rfl)); simp only [Act.put, List.setIfInBounds_toArray, List.set_cons_zero, List.set_cons_succ])
      refine wpHL_step (fun K hK => ?_)
      go_simp
      refine hK.out _ _ (HS0.out _ (by repeat (first | exact Ext.refl _ | refine Ext.alloc ?_ _ | refine Ext.drew ?_))) ?_
      clear hK K
      try simp only [Act.put, List.setIfInBounds_toArray, List.set_cons_zero, List.set_cons_succ]
      refine wpHL_step (fun K hK => ?_)
      refine step_append_lies _ rfl (.tmp 27) (.tmp 30) 22 rfl (w.heap.size + 3) 3 i0 (.int .i64 0) 1 8 Try.underlying22 hi hz0 hz1 hz2 rfl (by decide) _ k (intVs (wornL k (startW X).worn)) rfl (ownsRow_ext HO.out (HE5.out.trans (by repeat (first | exact Ext.refl _ | refine Ext.alloc ?_ _ | refine Ext.drew ?_)))) ⟨_, 0, none⟩ 1 1 [.int .i64 rw'] rfl rfl ?_ (one_int _) (by decide) hm1 hm2 ?_ _ rfl ?_
      · exact hnewsE (by repeat (first | exact Ext.refl _ | refine Ext.drew ?_)) hs5.symm
      · have := HE5.out.size
        show _ ≤ (W5.alloc _).heap.size
        rw [size_alloc]
        omega
      intro g cap w8 hown hgr hat hlt8
      have hF8 : Fr (fun k => u.ownBlock = some k) W5 w8 := Fr.trans (Ext.fr (by repeat (first | exact Ext.refl _ | refine Ext.alloc ?_ _ | refine Ext.drew ?_)) _) (grown_fr hgr)
      have hus : ¬ u.ownBlock = some s := fun e => (HUB.out s e).1 rfl
      have huH : ¬ u.ownBlock = some H := fun e => by have := (HUB.out H e).2.2; have := HH.out; omega
      have huw : ¬ u.ownBlock = some (w.heap.size + 1) := fun e => by have := (HUB.out _ e).2.1; omega
      have hSz := HS0.out W5 (Ext.refl _)
      refine hK.out _ _ ⟨hF8.cell hSz.1 huw, hF8.cell hSz.2.1 hus, hF8.cell hSz.2.2 huH⟩ ?_
      clear hK K
      try simp only [Act.put, List.setIfInBounds_toArray, List.set_cons_zero, List.set_cons_succ]
      have hs8 := (hF8.block s (by omega) hus).trans ((Below.block HE5.out s (by omega)).trans HS.out)
      have HF8 : Hid (Fr (fun k => k = s ∨ W.heap.size ≤ k) W w8) := Lib.hid (((HF.out.mono (fun k h => .inl h)).trans (HE5.out.fr _)).trans (hF8.mono fun k h => .inr (by have := (HUB.out k h).2.1; omega)))
      have HS8 := Lib.hid hs8
      have hown8 : w8.ownsRow (w.heap.size + 3) 3 1 (.slice (some ⟨g, 0, none⟩) (k + 1) cap) (k + 1) (intVs (wornL (k + 1) (startW X).worn)) := by
        rw [wornL_succ, intVs_snoc, HST.out]; exact hown
      have HO8 := Lib.hid hown8
      have hgs : g ≠ s := fun e => by have := hown8.lt g rfl; omega
      clear hown hgr hat hF8 hSz hown8 hus huH huw
      repeat (refine wpHL_take (v := ?_) (by rfl) ?_ (fun _ _ _ h => h) ?_; rotate_left 1; (intro z hz; (try dsimp only at hz); go_simp; (try with_reducible rfl)); simp only [Act.put, List.setIfInBounds_toArray, List.set_cons_zero, List.set_cons_succ])
      refine wpHL_nil ?_
      simp only [List.drop_succ_cons, List.drop_zero]
      have a0 := cell_of_heap hs8 0
      have b0 := cell_frozen hs8 0
      simp at a0
      clear hs8
      go_wp2
      go_roundw
      case rel =>
        refine ⟨k + 1, by omega, by go_num, _, heap_set HS8.out rfl, ownsRow_fr HO8.out (E := fun k => k = s) ((Fr.refl _ _).set rfl) (fun g' hg' e => ?_), ?_⟩
        · cases hg'
          exact hgs e
        · have h1 := HF8.out
          have h2 : Fr (fun k => k = s) w8 (w8.setCell ⟨s, 0, none⟩ (.slice (some ⟨g, 0, none⟩) (k + 1) cap)) := (Fr.refl _ _).set rfl
          exact h1.low.trans h2
      case measure => simp [intOf]; omega
    · obtain rfl : k = X.recs.length := by omega
      go_wp2
      go_ret
      have hwF : Fr (fun k => k = s) w wr := (HE.out.fr _).trans HF.out
      exact ⟨rfl, (HF.out.block _ (by omega) (by omega)).trans HG0.out, (HF.out.block _ (by omega) (by omega)).trans HG1.out, (HF.out.block _ (by omega) (by omega)).trans HG2.out, ⟨u, HS.out, HO.out⟩, hwF⟩
end Go.Proofs.Ytkcilgjkdiopnaa
