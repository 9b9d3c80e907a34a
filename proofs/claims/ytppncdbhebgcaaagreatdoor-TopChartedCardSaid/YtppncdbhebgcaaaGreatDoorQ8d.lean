
/- The walk of the reference's truths. -/
import Derived.Test.YtppncdbhebgcaaaGreatDoorQ8c
namespace Go.Proofs.YtppncdbhebgcaaaGreatDoor
open Go.RowKit

theorem ownsRow_at2 {w : World} {B : Nat} {e : TypeId} {v : Value} {n : Nat} {xs : List Value} (h : w.ownsRow B e 2 v n xs) (hn : 0 < n) :
    ∃ b c, v = .slice (some ⟨b, 0, none⟩) n c ∧ ∀ i, i < n * 2 → w.cell? ⟨b, i, none⟩ = xs[i]? := by
  rcases h.2 with ⟨-, h0⟩ | ⟨g, cap, cur, rfl, -, hg, hc, -, hs, hx⟩
  · omega
  · refine ⟨g, cap, rfl, fun i hi => ?_⟩
    rw [cell_of_heap hg, ← hx, List.getElem?_take, if_pos hi]
    simp
theorem own_slice {w : World} {B : Nat} {e : TypeId} {size : Nat} {v : Value} {n : Nat} {xs : List Value} (h : w.ownsRow B e size v n xs) : ∃ q cap, v = .slice q n cap := by
  rcases h.2 with ⟨hv, h0⟩ | ⟨b, cap, cur, hv, -⟩
  · exact ⟨none, 0, by rw [hv, h0]⟩
  · exact ⟨_, cap, hv⟩
/-- the values of truths, their plays read in W -/
def TrVs (W : World) (vs : List Value) (ts : List (Int × List Int)) : Prop :=
  vs.length = ts.length * 2 ∧ ∀ i (h : i < ts.length), vs[i * 2]? = some (.int .i64 ts[i].1) ∧ ∃ q c, vs[i * 2 + 1]? = some (.slice q ts[i].2.length c) ∧ IntsAt W q ts[i].2
theorem TrVs.nil (W : World) : TrVs W [] [] := ⟨rfl, fun i h => absurd h (by simp)⟩
theorem TrVs.snoc {W : World} {vs : List Value} {ts : List (Int × List Int)} {q : Option Addr} {c : Nat} {st : Int} {pl : List Int} (h : TrVs W vs ts) (hq : IntsAt W q pl) : TrVs W (vs ++ [.int .i64 st, .slice q pl.length c]) (ts ++ [(st, pl)]) := by
  obtain ⟨h1, h2⟩ := h
  refine ⟨by simp; omega, fun i hi => ?_⟩
  rw [List.length_append, List.length_singleton] at hi
  by_cases hlt : i < ts.length
  · obtain ⟨h3, q', c', h4, h5⟩ := h2 i hlt
    rw [List.getElem_append_left hlt, List.getElem?_append_left (by omega), List.getElem?_append_left (by omega)]
    exact ⟨h3, q', c', h4, h5⟩
  · obtain rfl : i = ts.length := by omega
    rw [List.getElem?_append_right (by omega), List.getElem?_append_right (by omega), h1]
    simp
    exact hq
/-- truths as a reader sees them -/
def TrsAt (w : World) (p : Option Addr) (ts : List (Int × List Int)) : Prop :=
  ∀ i (h : i < ts.length), ∃ b o q c, p = some ⟨b, o, none⟩ ∧ w.cell? ⟨b, o + i * 2, none⟩ = some (.int .i64 ts[i].1) ∧ w.cell? ⟨b, o + i * 2 + 1, none⟩ = some (.slice q ts[i].2.length c) ∧ IntsAt w q ts[i].2
theorem TrsAt.ext {w w' : World} {p : Option Addr} {ts : List (Int × List Int)} (h : TrsAt w p ts) (hE : Ext w w') : TrsAt w' p ts := by
  intro i hi
  obtain ⟨b, o, q, c, h0, h1, h2, h3⟩ := h i hi
  exact ⟨b, o, q, c, h0, hE.cell h1, hE.cell h2, h3.ext hE⟩
theorem TrVs.at {W w : World} {B : Nat} {v : Value} {vs : List Value} {ts : List (Int × List Int)} (h : TrVs W vs ts) (hE : Ext W w) (ho : w.ownsRow B 177 2 v ts.length vs) : ∃ q cap, v = .slice q ts.length cap ∧ TrsAt w q ts := by
  obtain ⟨q, cap, rfl⟩ := own_slice ho
  refine ⟨q, cap, rfl, fun i hi => ?_⟩
  obtain ⟨b, c, he, hc⟩ := ownsRow_at2 ho (by omega)
  obtain ⟨h3, q', c', h4, h5⟩ := h.2 i hi
  injection he with he1 _ _
  exact ⟨b, 0, q', c', he1, by rw [Nat.zero_add, hc _ (by omega), h3], by rw [Nat.zero_add, hc _ (by omega), h4], h5.ext hE⟩
theorem info_tr : (Tryz.prog.info? 177).map (fun i => (i.zero, i.size, i.bytes)) = some (some (.agg #[.int .i64 0, .slice none 0 0]), 2, 32) := by kernel_rfl
/-- all plays -/
theorem rplaysAll04 (M : Mt) (hM : ValidM M) (v : Value) (w : World) (hv : MtV w v M) :
    Calls Tryz.prog 161 #[v, .slice none 0 0] w fun e w' => ∃ q c, e = .returned (.slice q (plL M.weeks []).length c) ∧ Ext w w' ∧ ListsAt w' q (plL M.weeks []) := by
  refine (rplays04 M hM M.weeks [] (by simp) rfl v none 0 w hv (IntsAt.nil _ _)).mono ?_
  rintro e w' ⟨u, vs, rfl, hE, hF⟩
  have h := hF none (fun b hb => by cases hb) (fun j hj => absurd hj (by simp))
  obtain ⟨q, cap, rfl⟩ := h.slice
  refine ⟨q, cap, by rw [h.len], hE, fun i hi => ?_⟩
  obtain ⟨p, c, h1, h2⟩ := h.oth i hi
  obtain ⟨b, c', he, hc⟩ := ownsRow_at h.out i (by have := h.len; omega)
  injection he with he1 _ _
  exact ⟨b, 0, .slice p (plL M.weeks [])[i].length c, he1, by rw [Nat.zero_add, hc, h1], p, c, rfl, h2.ints⟩

set_option maxRecDepth 20000 in
set_option maxHeartbeats 3200000 in
theorem rtruths04 (M : Mt) (hM : ValidM M) (hf : farB M = false) (n : Int) (v : Value) (w : World) (hv : MtV w v M) :
    Calls Tryz.prog 145 #[v, .int .i64 n] w fun e w' => ∃ q c, e = .returned (.slice q (truthsL M n).length c) ∧ Ext w w' ∧ TrsAt w' q (truthsL M n) := by
  have HV := Lib.hid hv
  have HVM := Lib.hid hM
  obtain ⟨i0, hi, hz0, hz1, hz2⟩ := info_parts info_tr
  have hll : (plL M.weeks []).length ≤ 160 := by rw [plL_ways]; exact ways_far hM hf
  have HML := Lib.hid (fun i (h : i < (plL M.weeks []).length) => (by
    obtain ⟨x, e, hx⟩ := (mem_plL _ _).1 (List.getElem_mem h)
    rw [List.nil_append] at e
    rw [e]
    exact hx : inW M.weeks (plL M.weeks [])[i]))
  have HTL := Lib.hid (fun k (h : k ≤ (plL M.weeks []).length) => trTo_len M n (plL M.weeks []) k h)
  obtain ⟨L, hL⟩ : ∃ L, L = plL M.weeks [] := ⟨_, rfl⟩
  have HPA := Lib.hid (fun y (h : Ext w y) => rplaysAll04 M hM _ y (hv.ext h))
  have HT := Lib.hid (show truthsL M n = trTo M n L L.length from by rw [hL]; rfl)
  rw [← hL] at hll HML HTL HPA
  obtain ⟨p, c, qq, d, rfl, hp, hq⟩ := hv
  clear hp hq hL hM hf
  go_enter Tryz.func145, Tryz.ntmps145
  go_upto_region 1 with (fail)
  obtain ⟨s0, hs0⟩ : ∃ s0, s0 = w.heap.size := ⟨_, rfl⟩
  obtain ⟨W1, hW1⟩ : ∃ W, W = w.alloc (.cells #[.slice p M.weeks.length c, .slice qq M.reads.length d, .int .i64 M.wrong] 55) := ⟨_, rfl⟩
  have m0 : W1.heap[s0]? = some (.cells #[.slice p M.weeks.length c, .slice qq M.reads.length d, .int .i64 M.wrong] 55) := by rw [hs0, hW1]; exact heap_new _ _
  have hE1 : Ext w W1 := by rw [hW1]; exact (by repeat (first | exact Ext.refl _ | assumption | refine Ext.drewN ?_ _ | refine Ext.drew ?_ | refine Ext.alloc ?_ _))
  rw [← hs0, ← hW1]
  have a0 := cell_of_heap m0 0
  have a1 := cell_of_heap m0 1
  have a2 := cell_of_heap m0 2
  have HM0 := Lib.hid m0
  have HE1 := Lib.hid hE1
  clear hW1 m0 hE1 hs0
  go_upto_region 3 with (go_at_call 161; refine (HPA.out _ HE1.out).mono ?_; rintro e W ⟨pq, pc, rfl, hE2, hLs⟩)
  have hE := HE1.out.trans hE2
  have HE := Lib.hid hE
  have HLS := Lib.hid hLs
  have m0 := heap_ext3 HM0.out hE2
  have b0 := cell_of_heap m0 0
  have b1 := cell_of_heap m0 1
  have b2 := cell_of_heap m0 2
  have HQ := Lib.hid (fun (z : World) (hz : Ext W z) => (⟨cell_of_heap (heap_ext3 m0 hz) 0, cell_of_heap (heap_ext3 m0 hz) 1, cell_of_heap (heap_ext3 m0 hz) 2⟩ :
        z.cell? ⟨s0, 0, none⟩ = some (.slice p M.weeks.length c) ∧ z.cell? ⟨s0, 1, none⟩ = some (.slice qq M.reads.length d) ∧ z.cell? ⟨s0, 2, none⟩ = some (.int .i64 M.wrong)))
  clear hE hE2 hLs m0 a0 a1 a2 HE1 HM0
  go_wp2
  go_loopw [5, 7] (fun u i wr => ∃ k : Nat, k ≤ L.length ∧ i = .int .i64 k ∧ Ext W wr ∧ ∃ vs, TrVs W vs (trTo M n L k) ∧ wr.ownsRow W.heap.size 177 2 u (trTo M n L k).length vs) (fun _ i _ => L.length - (intOf i).toNat)
  case atStart => exact ⟨0, Nat.zero_le _, rfl, Ext.refl _, [], TrVs.nil _, World.ownsRow_nil _ _ _ _⟩
  case round =>
    clear b0 b1 b2
    obtain ⟨k, hk, rfl, hE, vs, hV, hO⟩ := hrel
    have HEW := Lib.hid hE
    have HVS := Lib.hid hV
    have HO := Lib.hid hO
    clear hE hV hO
    by_cases hlt : k < L.length
    · have hlt' : (k : Int) < (L.length : Int) := by omega
      obtain ⟨b, o, qk, ck, rfl, hck, hik⟩ := HLS.out.at k hlt
      have HCK := Lib.hid hck
      have HIK := Lib.hid hik
      have hiw := HML.out k hlt
      have htl := HTL.out k hk
      have HSU := Lib.hid (trTo_succ M n hlt)
      obtain ⟨pl, hpl⟩ : ∃ pl, pl = L[k] := ⟨_, rfl⟩
      rw [← hpl] at hiw HSU HCK HIK
      have HIW := Lib.hid hiw
      have HRL := Lib.hid (fun j => trRow_len M n pl j)
      have HRS := Lib.hid (fun j => trRow_succ M n pl j)
      obtain ⟨T0, hT0⟩ : ∃ T0, T0 = trTo M n L k := ⟨_, rfl⟩
      rw [← hT0] at htl HSU HVS HO
      clear hck hik hiw hpl hT0
      go_wp2
      go_loopw [5, 8] (fun u i wr => ∃ j : Nat, j ≤ 100 ∧ i = .int .i64 j ∧ Ext W wr ∧ ∃ vs, TrVs W vs (T0 ++ trRow M n pl j) ∧ wr.ownsRow W.heap.size 177 2 u (T0 ++ trRow M n pl j).length vs) (fun _ i _ => 100 - (intOf i).toNat)
      case atStart => exact ⟨0, Nat.zero_le _, rfl, HEW.out, vs, by simpa [trRow] using HVS.out, by simpa [trRow] using HO.out⟩
      case round =>
        clear HVS HO HEW
        obtain ⟨j, hj, rfl, hE, vs, hV, hO⟩ := hrel
        have HEW := Lib.hid hE
        have HVS := Lib.hid hV
        have HO := Lib.hid hO
        have hck := hE.cell HCK.out
        obtain ⟨z0, z1, z2⟩ := HQ.out _ hE
        have hrl := HRL.out j
        clear hE hV hO
        by_cases hlt2 : j < 100
        · have hlt2' : (j : Int) < 100 := by omega
          go_upto_region 10 with (fail)
          obtain ⟨s9, hs9⟩ : ∃ s9, s9 = wr.heap.size := ⟨_, rfl⟩
          obtain ⟨X, hX⟩ : ∃ X, X = wr.alloc (.cells #[.int .i64 j, .slice qk pl.length ck] 177) := ⟨_, rfl⟩
          have hEX : Ext wr X := by rw [hX]; exact Ext.alloc (Ext.refl _) _
          have m9 : X.heap[s9]? = some (.cells #[.int .i64 j, .slice qk pl.length ck] 177) := by rw [hX, hs9]; exact heap_new _ _
          rw [← hs9, ← hX]
          have hpo := truP_ok HVM.out (st := (j : Int)) (by omega) HIW.out.1 HIW.out.2
          have HWR := Lib.hid (fun y (h : Ext X y) => rWrongs04 M HVM.out j pl hpo HIW.out.1 _ _ y (HV.out.ext (HE.out.trans (HEW.out.trans (hEX.trans h)))) ⟨qk, ck, rfl, HIK.out.ext (HEW.out.trans (hEX.trans h))⟩)
          have HWR0 := Lib.hid (HWR.out X (Ext.refl _))
          have HEX := Lib.hid hEX
          have HM9 := Lib.hid m9
          have z0 := hEX.cell z0
          have z1 := hEX.cell z1
          have z2 := hEX.cell z2
          have d0 := cell_of_heap m9 0
          have d1 := cell_of_heap m9 1
          have hsu := HRS.out j
          obtain ⟨wn, hwn⟩ : ∃ a, a = Wd M (dOf j pl) := ⟨_, rfl⟩
          rw [← hwn] at HWR0 hsu
          have HPO := Lib.hid hpo
          clear hs9 hX hEX m9 hpo HWR hwn hck
          by_cases hw : (wn : Int) ≤ n
          · rw [if_pos hw] at hsu
            have HSU2 := Lib.hid hsu
            clear hsu
            go_upto_region 11 with (go_at_call 162; refine HWR0.out.mono ?_; rintro e w2 ⟨rfl, hE2⟩)
            have hEW2 := HEX.out.trans hE2
            have HE2 := Lib.hid (HEW.out.trans hEW2)
            have HO2 := Lib.hid (ownsRow_ext HO.out hEW2)
            have m9 := heap_ext3 HM9.out hE2
            have d0 := cell_of_heap m9 0
            have d1 := cell_of_heap m9 1
            have hsz := HE2.out.size
            clear hE2 hEW2 m9 z0 z1 z2 HWR0 HM9 hw
            go_wp2_with (at_builtin; refine wpList_append_lies _ rfl (.tmp 33) (.tmp 35) 172 rfl W.heap.size 177 i0 (.agg #[.int .i64 0, .slice none 0 0]) 2 32 Tryz.underlying172 hi hz0 hz1 hz2 rfl (by decide) _ (T0 ++ trRow M n pl j).length vs rfl (HO2.out.alloc _) ⟨w2.heap.size, 0, none⟩ 1 1 [.int .i64 (j : Int), .slice qk pl.length ck] rfl rfl ?c1 ?c2 (by decide) ?c3 ?c4 ?c5 (w2.heap.size + 1) (size_alloc _ _) ?_)
            case c1 =>
              intro i u hi
              match i, hi with
              | 0, hi => simp at hi; subst hi; simp [Addr.add]
              | 1, hi => simp at hi; subst hi; simp [Addr.add]
            case c2 => intro u hu; simp at hu; rcases hu with rfl | rfl <;> rfl
            case c3 => rw [List.length_append]; unfold maxLen; omega
            case c4 => rw [List.length_append]; omega
            case c5 => rw [size_alloc]; omega
            intro g4 cap4 w4 hown4 hgr4 hat4 hlt4
            have hE4 : Ext W w4 := Below.grown (HE2.out.alloc _) hgr4 (by rw [size_alloc]; omega) (fun j hj => (HO2.out.lt j hj).1)
            have HO4 := Lib.hid hown4
            have HE4 := Lib.hid hE4
            clear hown4 hgr4 hat4 hlt4 hE4 HO2 HE2 hsz
            go_wp2
            go_roundw
            case rel =>
              refine ⟨j + 1, by omega, by simp, HE4.out, vs ++ [.int .i64 (j : Int), .slice qk pl.length ck], ?_, ?_⟩
              · rw [HSU2.out, ← List.append_assoc]
                exact HVS.out.snoc HIK.out
              · rw [HSU2.out, ← List.append_assoc, List.length_append (bs := [((j : Int), pl)]), List.length_append]
                exact HO4.out
            case measure => simp [intOf]; omega
          · rw [if_neg hw, List.append_nil] at hsu
            have HSU2 := Lib.hid hsu
            clear hsu
            go_wp2_with (go_at_call 162; refine HWR0.out.mono ?_; rintro e w2 ⟨rfl, hE2⟩)
            have hEW2 := HEX.out.trans hE2
            go_roundw
            case rel => exact ⟨j + 1, by omega, by simp, HEW.out.trans hEW2, vs, by rw [HSU2.out]; exact HVS.out, by rw [HSU2.out]; exact ownsRow_ext HO.out hEW2⟩
            case measure => simp [intOf]; omega
        · obtain rfl : j = 100 := by omega
          go_wp2
          go_roundw
          case rel => exact ⟨k + 1, by omega, by simp, HEW.out, vs, by rw [HSU.out]; exact HVS.out, by rw [HSU.out]; exact HO.out⟩
          case measure => simp [intOf]; omega
    · obtain rfl : k = L.length := by omega
      go_wp2
      go_ret
      obtain ⟨q, cap, rfl, ht⟩ := HVS.out.at HEW.out HO.out
      exact ⟨q, cap, by rw [HT.out]; rfl, HE.out.trans HEW.out, by rw [HT.out]; exact ht⟩
end Go.Proofs.YtppncdbhebgcaaaGreatDoor
