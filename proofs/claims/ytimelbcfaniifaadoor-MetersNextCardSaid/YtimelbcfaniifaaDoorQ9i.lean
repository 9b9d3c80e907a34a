/- The walk of the reference's Next. -/
import Derived.Test.YtimelbcfaniifaaDoorQ9c
import Derived.Test.YtimelbcfaniifaaDoorQ9g
import Derived.Test.YtimelbcfaniifaaDoorQ9h
namespace Go.Proofs.YtimelbcfaniifaaDoor
open Go.RowKit Go.Maps
open Go.ChangeMaps (setBlock)

theorem CntMap.mono {w : World} {kt : TypeId} {b n n' : Nat} {f : Lit → Int} (h : CntMap w kt b n f) (hn : n ≤ n') : CntMap w kt b n' f := by
  obtain ⟨D, h1, h2⟩ := h
  exact ⟨D, h1.mono hn, h2⟩
/-- what may come of a world while an entry of map b is taken -/
def Rm (b : Nat) (o0 o1 : Obj) (w w' : World) : Prop := w.grownBy w' (some b) ∧ (w'.heap[b]? = w.heap[b]? ∨ (w.heap[b]? = some o0 ∧ w'.heap[b]? = some o1))
section
variable {b : Nat} {o0 o1 : Obj}
theorem Rm.refl (w : World) : Rm b o0 o1 w w := ⟨World.grownBy.refl _ _, Or.inl rfl⟩
theorem Rm.trans {x y z : World} (h : Rm b o0 o1 x y) (k : Rm b o0 o1 y z) : Rm b o0 o1 x z := by
  refine ⟨h.1.trans k.1, ?_⟩
  rcases h.2 with h | ⟨h, h'⟩ <;> rcases k.2 with k | ⟨k, k'⟩
  · exact Or.inl (k.trans h)
  · exact Or.inr ⟨h ▸ k, k'⟩
  · exact Or.inr ⟨h, k.trans h'⟩
  · exact Or.inr ⟨h, k'⟩
theorem Rm.size {x y : World} (h : Rm b o0 o1 x y) : x.heap.size ≤ y.heap.size := h.1.size
theorem Rm.either {x y : World} (h : Rm b o0 o1 x y) (hx : x.heap[b]? = some o0) : y.heap[b]? = some o0 ∨ y.heap[b]? = some o1 := h.2.elim (fun h => Or.inl (h.trans hx)) (fun h => Or.inr h.2)
theorem Rm.after {x y : World} (h : Rm b o0 o1 x y) (hx : x.heap[b]? = some o1) : y.heap[b]? = some o1 := h.2.elim (fun h => h.trans hx) (fun h => h.2)
theorem block_same {w : World} {b : Nat} (o : Obj) (h : b < w.heap.size) : (setBlock w b o).heap[b]? = some o := by simp [setBlock, h]
theorem block_other {w : World} {b i : Nat} (o : Obj) (h : i ≠ b) : (setBlock w b o).heap[i]? = w.heap[i]? := by
  simp only [setBlock]
  rw [Array.getElem?_setIfInBounds_ne (fun e => h e.symm)]
theorem Rm.entry {x : World} (h : x.heap[b]? = some o0 ∨ x.heap[b]? = some o1) : Rm b o0 o1 x (setBlock x b o1) := by
  have hlt : b < x.heap.size := by rcases h with h | h <;> exact (Array.getElem?_eq_some_iff.1 h).1
  have hs : (setBlock x b o1).heap[b]? = some o1 := block_same _ hlt
  refine ⟨⟨rfl, rfl, rfl, by simp [setBlock], fun i _ hi => block_other _ (fun e => hi (by rw [e]))⟩, ?_⟩
  rcases h with h | h
  · exact Or.inr ⟨h, hs⟩
  · exact Or.inl (hs.trans h.symm)
end
theorem grown_block (x : World) (b : Nat) (o : Obj) : x.grownBy (setBlock x b o) (some b) := ⟨rfl, rfl, rfl, by simp [setBlock], fun i _ hi => block_other _ (fun e => hi (by rw [e]))⟩
theorem rShownG {st : Int} {pl : List Int} (h : PlayOK st pl) {a : Nat} (ha : a ≤ pl.length) (v : Value) (w : World) (hv : TrV w v st pl) : Calls Tryd.prog 49 #[v, .int .i64 a] w (RetE (.int .i64 (shownG a (st, pl))) w) := by
  unfold shownG
  rw [Int.toNat_natCast]
  exact rShown04 st pl h a ha v w hv
theorem rTotG {st : Int} {pl : List Int} (h : PlayOK st pl) {n : Nat} (hn : n ≤ pl.length) (v : Value) (w : World) (hv : TrV w v st pl) : Calls Tryd.prog 48 #[v, .int .i64 0, .int .i64 n] w (RetE (.int .i64 (totG n (st, pl))) w) :=
  rSum04 st pl h 0 n (Nat.zero_le _) hn v w hv
def EntF (b : Nat) (o1 : Obj) (v0 : Value) (v : Value) (_ _ : Nat) (w : World) : Prop := v = v0 ∧ w.heap[b]? = some o1
theorem EntF.mono {b : Nat} {o0 o1 : Obj} {v0 : Value} : ∀ v s e w w', Rm b o0 o1 w w' → EntF b o1 v0 v s e w → EntF b o1 v0 v s e w' := fun _ _ _ _ _ hR h => ⟨h.1, hR.after h.2⟩
theorem IsR.mono {b : Nat} {o0 o1 : Obj} {x : Value} : ∀ v s e w w', Rm b o0 o1 w w' → Is x v s e w → Is x v s e w' := fun _ _ _ _ _ _ h => h
theorem zeroSpan2 : (#[Value.int .i64 0, Value.int .i64 0] : Array Value) = rowV 2 .i64 (fun _ => 0) := by rfl
theorem cnt_step {f : Lit → Int} {a nw : Nat} {T : List (Int × List Int)} {k : Nat} (hk : k < T.length) {sh su : Int} (h1 : shownG a T[k] = sh) (h2 : totG nw T[k] = su) (hs : (Lit.int .i64 sh).wf = true) (hu : (Lit.int .i64 su).wf = true)
    (hf : ∀ s n, (Lit.int .i64 s).wf = true → (Lit.int .i64 n).wf = true → f (pk s n) = (cntP a nw T k s n : Nat)) : ∀ s n, (Lit.int .i64 s).wf = true → (Lit.int .i64 n).wf = true → cntUp f (pk sh su) ((cntP a nw T k sh su : Nat) + 1) (pk s n) = (cntP a nw T (k + 1) s n : Nat) := by
  intro s n hs' hn
  rw [cntP_succ hk, h1, h2]
  by_cases e : sh = s ∧ su = n
  · obtain ⟨rfl, rfl⟩ := e
    rw [if_pos ⟨rfl, rfl⟩, cntUp_same]
    rfl
  · rw [if_neg e, cntUp_other _ _ (fun h => e (by have := pk_inj hs' hn hs hu h; exact ⟨this.1.symm, this.2.symm⟩)), hf s n hs' hn]
    rfl

set_option maxRecDepth 20000 in
set_option maxHeartbeats 16000000 in
theorem rNext04 (M : Mt) (hf : farB M = false) (v : Value) (w : World) (hv : MtV w v M) :
    Calls Tryd.prog 25 #[v] w (RetE (.tuple #[.int .i64 (nextA M), .int .i64 (askV M true)]) w) := by
  have HV := Lib.hid hv
  have HF := Lib.hid hf
  have hmm := @run_makeMap Tryd.prog
  obtain ⟨p, c, qq, d, rfl, hp, hq⟩ := hv
  clear hp hq hf
  go_enter Tryd.func25, Tryd.ntmps25
  go_upto_region 1 with (fail)
  obtain ⟨s0, hs0⟩ : ∃ s0, s0 = w.heap.size := ⟨_, rfl⟩
  obtain ⟨W1, hW⟩ : ∃ W, W = w.alloc (.cells #[.slice p M.weeks.length c, .slice qq M.reads.length d, .int .i64 M.wrong] 25) := ⟨_, rfl⟩
  have m0 : W1.heap[s0]? = some (.cells #[.slice p M.weeks.length c, .slice qq M.reads.length d, .int .i64 M.wrong] 25) := by rw [hs0, hW]; exact heap_new _ _
  have hE1 : Ext w W1 := by rw [hW]; exact (by repeat (first | exact Ext.refl _ | assumption | refine Ext.drewN ?_ _ | refine Ext.drew ?_ | refine Ext.alloc ?_ _))
  rw [← hs0, ← hW]
  have a0 := cell_of_heap m0 0
  have a1 := cell_of_heap m0 1
  have a2 := cell_of_heap m0 2
  have HM0 := Lib.hid m0
  have HE1 := Lib.hid hE1
  have HK := Lib.hid (rknown04 M HF.out true _ W1 (HV.out.ext hE1))
  obtain ⟨z, hz⟩ : ∃ z, z = askV M true := ⟨_, rfl⟩
  rw [← hz] at HK
  have HZ := Lib.hid hz
  clear hW m0 hE1 hs0
  by_cases hz0' : z = 0
  case neg =>
    rw [okT_ne hz0'] at HK
    have g1 : (z == 0) = false := by simpa using hz0'
    have HA := Lib.hid (show nextA M = 0 from okN_ne (by rw [← hz]; exact hz0') _)
    clear hz
    go_wp2_with (go_at_call 64; refine HK.out.mono ?_; rintro e w2 ⟨q, cq, rfl, hE2, hq⟩)
    have HE2 := Lib.hid (HE1.out.trans hE2)
    clear hE2 hq
    go_ret2
    exact RetE.fin HE2.out (by rw [HA.out, ← HZ.out]; rfl)
  subst hz0'
  have hM : ValidM M := Classical.byContradiction fun h => by rw [askV_bad h] at hz; cases hz
  rw [okT_0 rfl] at HK
  have hn5 := hM.nw
  have hlen := truthsL_len hM HF.out M.wrong
  have HA := Lib.hid (show nextA M = (refTo M (M.weeks.length + 1)).1 from by rw [refTo_all hM]; exact okN_0 hz.symm _)
  have HWF := Lib.hid (fun a (h : a ≤ M.weeks.length) => worst_full hM h)
  have HRB := Lib.hid (fun k (h : k ≤ M.weeks.length + 1) => refTo_bd hM k h)
  have HMB := Lib.hid (fun a (h : a ≤ M.weeks.length) => most_bd hM h)
  have HC1 := Lib.hid (fun (tr : Int × List Int) (htr : tr ∈ truthsL M M.wrong) (a : Nat) (ha : a ≤ M.weeks.length) (q : Option Addr) (c : Nat) (y : World) (hq : IntsAt y q tr.2) => (
    rShownG (truthsL_ok hM htr) (by have := (truth_zero htr).2; omega) _ y ⟨q, c, rfl, hq⟩ : Calls Tryd.prog 49 #[.agg #[.int .i64 tr.1, .slice q tr.2.length c], .int .i64 a] y (RetE (.int .i64 (shownG a tr)) y)))
  have HC2 := Lib.hid (fun (tr : Int × List Int) (htr : tr ∈ truthsL M M.wrong) (q : Option Addr) (c : Nat) (y : World) (hq : IntsAt y q tr.2) => (
    rTotG (truthsL_ok hM htr) (by have := (truth_zero htr).2; omega) _ y ⟨q, c, rfl, hq⟩ : Calls Tryd.prog 48 #[.agg #[.int .i64 tr.1, .slice q tr.2.length c], .int .i64 0, .int .i64 M.weeks.length] y (RetE (.int .i64 (totG M.weeks.length tr)) y)))
  have HGB := Lib.hid (fun (tr : Int × List Int) (htr : tr ∈ truthsL M M.wrong) (a : Nat) => (⟨by unfold shownG; omega, by unfold shownG; omega, truthsL_bd hM htr (Nat.zero_le M.weeks.length) (Nat.le_refl _)⟩ : 0 ≤ shownG a tr ∧ shownG a tr ≤ 99 ∧ 0 ≤ totG M.weeks.length tr ∧ totG M.weeks.length tr ≤ 1500))
  obtain ⟨T, hT⟩ : ∃ T, T = truthsL M M.wrong := ⟨_, rfl⟩
  rw [← hT] at HK HC1 HC2 HGB HWF hlen
  clear hT hM hz
  go_upto_region 4 with (go_at_call 64; refine HK.out.mono ?_; rintro e W ⟨q, cq, rfl, hE2, hq⟩)
  have HE := Lib.hid (HE1.out.trans hE2)
  have HTS := Lib.hid hq
  have HQW := Lib.hid (fun (z : World) (hz : Ext W z) => (⟨heap_ext3 HM0.out (hE2.trans hz), HV.out.ext ((HE1.out.trans hE2).trans hz)⟩ : z.heap[s0]? = some (.cells #[.slice p M.weeks.length c, .slice qq M.reads.length d, .int .i64 M.wrong] 25) ∧ MtV z (.agg #[.slice p M.weeks.length c, .slice qq M.reads.length d, .int .i64 M.wrong]) M))
  clear hE2 hq a0 a1 a2 HE1 HM0 HK
  go_wp2
  go_loopw [6, 7, 8] (fun b l a wr => ∃ k : Nat, k ≤ M.weeks.length + 1 ∧ a = .int .i64 k ∧ b = .int .i64 (refTo M k).1 ∧ l = .int .i64 (refTo M k).2 ∧ Ext W wr) (fun _ _ a _ => M.weeks.length + 1 - (intOf a).toNat)
  case atStart => exact ⟨0, Nat.zero_le _, rfl, rfl, rfl, Ext.refl _⟩
  case round =>
    obtain ⟨k, hk, rfl, rfl, rfl, hE⟩ := hrel
    have HEW := Lib.hid hE
    have b0 := cell_of_heap (HQW.out wr hE).1 0
    have b1 := cell_of_heap (HQW.out wr hE).1 1
    have b2 := cell_of_heap (HQW.out wr hE).1 2
    by_cases hlt : k ≤ M.weeks.length
    · have HIA := Lib.hid (by have h := IsAfter04 M k _ wr (HQW.out wr hE).2; rwa [winB_t (Int.natCast_nonneg k) (by omega)] at h : Calls Tryd.prog 27 #[.agg #[.slice p M.weeks.length c, .slice qq M.reads.length d, .int .i64 M.wrong], .int .i64 k] wr (RetE (.bool true) wr))
      have hrb := HRB.out k hk
      have HRS := Lib.hid (refTo_succ M k)
      have HWFK := Lib.hid (HWF.out k hlt)
      have hmb := HMB.out k hlt
      obtain ⟨bst, hbst⟩ : ∃ x, x = (refTo M k).1 := ⟨_, rfl⟩
      obtain ⟨lst, hlst⟩ : ∃ x, x = (refTo M k).2 := ⟨_, rfl⟩
      rw [← hbst, ← hlst] at hrb ⊢
      have HRK := Lib.hid (⟨hbst, hlst⟩ : bst = (refTo M k).1 ∧ lst = (refTo M k).2)
      clear hE hbst hlst
      go_upto_region 9 with (go_at_call 27; refine HIA.out.mono ?_; rintro e w2 ⟨rfl, hE2⟩)
      have hEX := HEW.out.trans hE2
      obtain ⟨bm, hbm⟩ : ∃ b, b = w2.heap.size := ⟨_, rfl⟩
      obtain ⟨W2, hW2⟩ : ∃ W2, W2 = (w2.alloc (.map #[] 0)).alloc (.map #[] 0) := ⟨_, rfl⟩
      have hE3 : Ext W W2 := by rw [hW2]; exact (hEX.alloc _).alloc _
      have hc1 : CntMap W2 97 bm 0 (fun _ => 0) := by rw [hW2, hbm]; exact (CntMap.made w2 _).ext (Ext.alloc (Ext.refl _) _)
      have hc2 : CntMap W2 3 (bm + 1) 0 (fun _ => 0) := by
        have h := CntMap.made (w2.alloc (.map #[] 0)) 3
        rw [size_alloc, ← hbm, ← hW2] at h
        exact h
      have HBM := Lib.hid (show W.heap.size ≤ bm from by rw [hbm]; exact hEX.size)
      rw [← hbm, ← hW2]
      have HE3 := Lib.hid hE3
      have HCA := Lib.hid hc1
      have HCB := Lib.hid hc2
      clear hEX hbm hW2 hE3 hc1 hc2 hE2 b0 b1 b2 HIA
      go_wp2
      go_loopw [11, 12] (fun x i wr => ∃ j : Nat, j ≤ T.length ∧ i = .int .i64 j ∧ x = .int .i64 (worstT 100 1536 k M.weeks.length T j : Nat) ∧ Ext W wr ∧ CntInt wr (bm + 1) j (fun s => (manyT 1536 k M.weeks.length T j s : Nat)) ∧
        ∃ f, CntMap wr 97 bm j f ∧ ∀ s n, (Lit.int .i64 s).wf = true → (Lit.int .i64 n).wf = true → f (pk s n) = (cntP k M.weeks.length T j s n : Nat)) (fun _ i _ => T.length - (intOf i).toNat)
      case atStart =>
        refine ⟨0, Nat.zero_le _, rfl, by rw [worst_zero]; rfl, HE3.out, ⟨_, HCB.out, fun s => ?_⟩, _, HCA.out, fun s n _ _ => ?_⟩
        · simp [manyT, cntP]
        · simp [cntP]
      case round =>
        clear HCA HCB HE3
        obtain ⟨j, hj, rfl, rfl, hE, hB, f, hA, hfa⟩ := hrel
        have HEX := Lib.hid hE
        have HCB := Lib.hid hB
        have HCA := Lib.hid hA
        have hwl := worstT_le 100 1536 k M.weeks.length T j
        clear hE hB hA
        by_cases hlt2 : j < T.length
        · have hlt2' : (j : Int) < (T.length : Int) := by omega
          obtain ⟨b2, o2, q2, c2, rfl, ht0, ht1, ht2⟩ := HTS.out j hlt2
          have hsh := fun y (h : Ext wr y) => HC1.out T[j] (List.getElem_mem hlt2) k hlt q2 c2 y (ht2.ext (HEX.out.trans h))
          have hsu := fun y (h : Ext wr y) => HC2.out T[j] (List.getElem_mem hlt2) q2 c2 y (ht2.ext (HEX.out.trans h))
          have hgb := HGB.out T[j] (List.getElem_mem hlt2) k
          have hold := fun ho => many_old (N := 1536) (a := k) (nw := M.weeks.length) hlt2 ho
          have hnew := fun ho => many_new (N := 1536) (a := k) (nw := M.weeks.length) hlt2 ho (by omega) (by omega)
          have hwold := fun ho => worst_old (S := 100) (N := 1536) (a := k) (nw := M.weeks.length) hlt2 ho
          have hwnew := fun ho => worst_new (S := 100) (N := 1536) (a := k) (nw := M.weeks.length) hlt2 ho (by omega) (by omega) (by omega)
          obtain ⟨sh, hsh0⟩ : ∃ s, s = shownG k T[j] := ⟨_, rfl⟩
          obtain ⟨su, hsu0⟩ : ∃ s, s = totG M.weeks.length T[j] := ⟨_, rfl⟩
          obtain ⟨st, hst⟩ : ∃ s, s = T[j].1 := ⟨_, rfl⟩
          obtain ⟨pl, hpl⟩ : ∃ s, s = T[j].2.length := ⟨_, rfl⟩
          rw [← hsh0, ← hsu0] at hgb hold hnew hwold hwnew
          have hws : (Lit.int .i64 sh).wf = true := WalkArith.wf_i64 (by omega)
          have hwu : (Lit.int .i64 su).wf = true := WalkArith.wf_i64 (by omega)
          have HFS := Lib.hid (cnt_step hlt2 hsh0.symm hsu0.symm hws hwu hfa)
          have hcf := hfa sh su hws hwu
          have hcle := cntP_le k M.weeks.length T j sh su
          rw [← hst] at ht0
          rw [← hpl] at ht1
          rw [← hsh0, ← hst, ← hpl] at hsh
          rw [← hsu0, ← hst, ← hpl] at hsu
          obtain ⟨n, hn⟩ : ∃ n, n = cntP k M.weeks.length T j sh su := ⟨_, rfl⟩
          rw [← hn] at hcf hcle HFS hold hnew hwold hwnew
          have HS := Lib.hid hsh
          have HU := Lib.hid hsu
          have HOLD := Lib.hid hold
          have HNEW := Lib.hid hnew
          have HWOLD := Lib.hid hwold
          have HWNEW := Lib.hid hwnew
          have HKEY := Lib.hid (key_pair hws hwu)
          have HWS := Lib.hid hws
          have HCF := Lib.hid hcf
          have HKC := Lib.hid (fun y (h : Ext wr y) => (⟨h.cell (HEX.out.cell ht0), h.cell (HEX.out.cell ht1), cell_of_heap (HQW.out y (HEX.out.trans h)).1 0⟩ :
            y.cell? ⟨b2, o2 + j * 2, none⟩ = some (.int .i64 st) ∧ y.cell? ⟨b2, o2 + j * 2 + 1, none⟩ = some (.slice q2 pl c2) ∧ y.cell? ⟨s0, 0, none⟩ = some (.slice p M.weeks.length c)))
          clear ht0 ht1 ht2 hsh hsu hold hnew hwold hwnew hsh0 hsu0 hst hpl hws hwu hfa hcf hn
          go_upto_region 13 with (fail)
          refine wp_region_facts 16 [[], [], [0, 1], [2], [], [3, 4], [], [], [6, 7], [8], [], [10], [11], [9, 12, 5], [5, 13], []] [14, 15] Ext (FL [Is (.slice (some ⟨b2, o2, none⟩) T.length cq), Is (.int .i64 (j : Int)), Is (.pointer (some ⟨b2, o2 + j * 2, none⟩)), Is (.agg #[.int .i64 st, .slice q2 pl c2]), Is (.int .i64 (k : Int)), Is (.int .i64 sh), Is (.slice (some ⟨b2, o2, none⟩) T.length cq), Is (.int .i64 (j : Int)), Is (.pointer (some ⟨b2, o2 + j * 2, none⟩)), Is (.agg #[.int .i64 st, .slice q2 pl c2]), Is (.pointer (some ⟨s0, 0, none⟩)), Is (.slice p M.weeks.length c), Is (.int .i64 (M.weeks.length : Int)), Is (.int .i64 su), Is (.agg #[.int .i64 sh, .int .i64 su]), NewB 97 2 .i64]) (by kernel_rfl) (by kernel_rfl) Ext.refl (fun _ _ _ => Ext.trans) (fun _ _ => Ext.size) (FL.mono ⟨Is.mono, Is.mono, Is.mono, Is.mono, Is.mono, Is.mono, Is.mono, Is.mono, Is.mono, Is.mono, Is.mono, Is.mono, Is.mono, Is.mono, Is.mono, NewB.mono, trivial⟩) ⟨?_, ?_, ?_, ?_, ?_, ?_, ?_, ?_, ?_, ?_, ?_, ?_, ?_, ?_, ?_, ?_, trivial⟩ ?_
          · refine opF_step ?_
            intro ys l0 h0 w' hr hf K hK
            clear hf
            simp only [fill, Act.put, dstO, List.take_succ_cons, List.take_zero, List.setIfInBounds_toArray, List.set_cons_zero, List.set_cons_succ, List.getElem?_cons_zero, Nat.zero_add, Nat.reduceAdd] at hK ⊢
            refine OpB.mk' ?_
            go_simp
            exact hK.out _ _ rfl (Ext.refl _)
          · refine opF_step ?_
            intro ys l0 h0 w' hr hf K hK
            clear hf
            simp only [fill, Act.put, dstO, List.take_succ_cons, List.take_zero, List.setIfInBounds_toArray, List.set_cons_zero, List.set_cons_succ, List.getElem?_cons_zero, List.getElem?_cons_succ, Nat.zero_add, Nat.reduceAdd] at hK ⊢
            refine OpB.mk' ?_
            go_simp
            exact hK.out _ _ rfl (Ext.refl _)
          · refine opF_step ?_
            intro ys l0 h0 w' hr hf K hK
            obtain ⟨f0, f1, -⟩ := hf
            have e0 : ys 0 = _ := f0
            have e1 : ys 1 = _ := f1
            simp only [fill, Act.put, dstO, List.take_succ_cons, List.take_zero, List.setIfInBounds_toArray, List.set_cons_zero, List.set_cons_succ, List.getElem?_cons_zero, List.getElem?_cons_succ, Nat.zero_add, Nat.reduceAdd] at hK ⊢
            simp only [e0, e1] at hK ⊢
            clear e0 e1 f0 f1
            refine OpB.mk' ?_
            go_simp
            exact hK.out _ _ rfl (Ext.refl _)
          · refine opF_step ?_
            intro ys l0 h0 w' hr hf K hK
            obtain ⟨f0, -⟩ := hf
            have e0 : ys 2 = _ := f0
            obtain ⟨j0, j1, j2⟩ := HKC.out w' ((Ext.refl wr).drew.trans hr)
            simp only [fill, Act.put, dstO, List.take_succ_cons, List.take_zero, List.setIfInBounds_toArray, List.set_cons_zero, List.set_cons_succ, List.getElem?_cons_zero, List.getElem?_cons_succ, Nat.zero_add, Nat.reduceAdd] at hK ⊢
            simp only [e0] at hK ⊢
            clear e0 f0
            refine OpB.mk' ?_
            go_simp
            exact hK.out _ _ rfl (Ext.refl _)
          · refine opF_step ?_
            intro ys l0 h0 w' hr hf K hK
            clear hf
            simp only [fill, Act.put, dstO, List.take_succ_cons, List.take_zero, List.setIfInBounds_toArray, List.set_cons_zero, List.set_cons_succ, List.getElem?_cons_zero, List.getElem?_cons_succ, Nat.zero_add, Nat.reduceAdd] at hK ⊢
            refine OpB.mk' ?_
            go_simp
            exact hK.out _ _ rfl (Ext.refl _)
          · refine opF_step ?_
            intro ys l0 h0 w' hr hf K hK
            obtain ⟨f0, f1, -⟩ := hf
            have e0 : ys 3 = _ := f0
            have e1 : ys 4 = _ := f1
            simp only [fill, Act.put, dstO, List.take_succ_cons, List.take_zero, List.setIfInBounds_toArray, List.set_cons_zero, List.set_cons_succ, List.getElem?_cons_zero, List.getElem?_cons_succ, Nat.zero_add, Nat.reduceAdd] at hK ⊢
            simp only [e0, e1] at hK ⊢
            clear e0 e1 f0 f1
            refine OpB.mk' ?_
            go_simp
            refine (HS.out w' ((Ext.refl wr).drew.trans hr)).mono ?_
            rintro e w2 ⟨rfl, hE2⟩
            exact hK.out _ _ rfl hE2
          · refine opF_step ?_
            intro ys l0 h0 w' hr hf K hK
            clear hf
            simp only [fill, Act.put, dstO, List.take_succ_cons, List.take_zero, List.setIfInBounds_toArray, List.set_cons_zero, List.set_cons_succ, List.getElem?_cons_zero, List.getElem?_cons_succ, Nat.zero_add, Nat.reduceAdd] at hK ⊢
            refine OpB.mk' ?_
            go_simp
            exact hK.out _ _ rfl (Ext.refl _)
          · refine opF_step ?_
            intro ys l0 h0 w' hr hf K hK
            clear hf
            simp only [fill, Act.put, dstO, List.take_succ_cons, List.take_zero, List.setIfInBounds_toArray, List.set_cons_zero, List.set_cons_succ, List.getElem?_cons_zero, List.getElem?_cons_succ, Nat.zero_add, Nat.reduceAdd] at hK ⊢
            refine OpB.mk' ?_
            go_simp
            exact hK.out _ _ rfl (Ext.refl _)
          · refine opF_step ?_
            intro ys l0 h0 w' hr hf K hK
            obtain ⟨f0, f1, -⟩ := hf
            have e0 : ys 6 = _ := f0
            have e1 : ys 7 = _ := f1
            simp only [fill, Act.put, dstO, List.take_succ_cons, List.take_zero, List.setIfInBounds_toArray, List.set_cons_zero, List.set_cons_succ, List.getElem?_cons_zero, List.getElem?_cons_succ, Nat.zero_add, Nat.reduceAdd] at hK ⊢
            simp only [e0, e1] at hK ⊢
            clear e0 e1 f0 f1
            refine OpB.mk' ?_
            go_simp
            exact hK.out _ _ rfl (Ext.refl _)
          · refine opF_step ?_
            intro ys l0 h0 w' hr hf K hK
            obtain ⟨f0, -⟩ := hf
            have e0 : ys 8 = _ := f0
            obtain ⟨j0, j1, j2⟩ := HKC.out w' ((Ext.refl wr).drew.trans hr)
            simp only [fill, Act.put, dstO, List.take_succ_cons, List.take_zero, List.setIfInBounds_toArray, List.set_cons_zero, List.set_cons_succ, List.getElem?_cons_zero, List.getElem?_cons_succ, Nat.zero_add, Nat.reduceAdd] at hK ⊢
            simp only [e0] at hK ⊢
            clear e0 f0
            refine OpB.mk' ?_
            go_simp
            exact hK.out _ _ rfl (Ext.refl _)
          · refine opF_step ?_
            intro ys l0 h0 w' hr hf K hK
            clear hf
            simp only [fill, Act.put, dstO, List.take_succ_cons, List.take_zero, List.setIfInBounds_toArray, List.set_cons_zero, List.set_cons_succ, List.getElem?_cons_zero, List.getElem?_cons_succ, Nat.zero_add, Nat.reduceAdd] at hK ⊢
            refine OpB.mk' ?_
            go_simp
            exact hK.out _ _ rfl (Ext.refl _)
          · refine opF_step ?_
            intro ys l0 h0 w' hr hf K hK
            obtain ⟨f0, -⟩ := hf
            have e0 : ys 10 = _ := f0
            obtain ⟨j0, j1, j2⟩ := HKC.out w' ((Ext.refl wr).drew.trans hr)
            simp only [fill, Act.put, dstO, List.take_succ_cons, List.take_zero, List.setIfInBounds_toArray, List.set_cons_zero, List.set_cons_succ, List.getElem?_cons_zero, List.getElem?_cons_succ, Nat.zero_add, Nat.reduceAdd] at hK ⊢
            simp only [e0] at hK ⊢
            clear e0 f0
            refine OpB.mk' ?_
            go_simp
            exact hK.out _ _ rfl (Ext.refl _)
          · refine opF_step ?_
            intro ys l0 h0 w' hr hf K hK
            obtain ⟨f0, -⟩ := hf
            have e0 : ys 11 = _ := f0
            simp only [fill, Act.put, dstO, List.take_succ_cons, List.take_zero, List.setIfInBounds_toArray, List.set_cons_zero, List.set_cons_succ, List.getElem?_cons_zero, List.getElem?_cons_succ, Nat.zero_add, Nat.reduceAdd] at hK ⊢
            simp only [e0] at hK ⊢
            clear e0 f0
            refine OpB.mk' ?_
            go_simp
            exact hK.out _ _ rfl (Ext.refl _)
          · refine opF_step ?_
            intro ys l0 h0 w' hr hf K hK
            obtain ⟨f0, f1, f2, -⟩ := hf
            have e0 : ys 9 = _ := f0
            have e1 : ys 12 = _ := f1
            have e2 : ys 5 = _ := f2
            simp only [fill, Act.put, dstO, List.take_succ_cons, List.take_zero, List.setIfInBounds_toArray, List.set_cons_zero, List.set_cons_succ, List.getElem?_cons_zero, List.getElem?_cons_succ, Nat.zero_add, Nat.reduceAdd] at hK ⊢
            simp only [e0, e1, e2] at hK ⊢
            clear e0 e1 e2 f0 f1 f2
            refine OpB.mk' ?_
            go_simp
            refine (HU.out w' ((Ext.refl wr).drew.trans hr)).mono ?_
            rintro e w2 ⟨rfl, hE2⟩
            exact hK.out _ _ rfl hE2
          · refine opF_step ?_
            intro ys l0 h0 w' hr hf K hK
            obtain ⟨f0, f1, -⟩ := hf
            have e0 : ys 5 = _ := f0
            have e1 : ys 13 = _ := f1
            simp only [fill, Act.put, dstO, List.take_succ_cons, List.take_zero, List.setIfInBounds_toArray, List.set_cons_zero, List.set_cons_succ, List.getElem?_cons_zero, List.getElem?_cons_succ, Nat.zero_add, Nat.reduceAdd] at hK ⊢
            simp only [e0, e1] at hK ⊢
            clear e0 e1 f0 f1
            refine OpB.mk' ?_
            go_simp
            exact hK.out _ _ rfl (Ext.refl _)
          · refine opF_step ?_
            intro ys l0 h0 w' hr hf K hK
            clear hf
            simp only [fill, Act.put, dstO, List.take_succ_cons, List.take_zero, List.setIfInBounds_toArray, List.set_cons_zero, List.set_cons_succ, List.getElem?_cons_zero, List.getElem?_cons_succ, Nat.zero_add, Nat.reduceAdd] at hK ⊢
            refine OpB.mk' ?_
            go_simp
            (try rw [zeroSpan2])
            exact hK.out _ _ ⟨rfl, by simp only [size_alloc]; omega, Blk.new' rfl _ _ _ _⟩ (Ext.alloc (Ext.refl _) _)
          intro ys l0 h0 w2 hr hf hsp
          obtain ⟨f14, f15, -⟩ := hf
          have e14 : ys 14 = _ := f14
          obtain ⟨e15, lt15, bk15⟩ := f15
          simp only [fill, Act.put, List.take_succ_cons, List.take_zero, List.setIfInBounds_toArray, List.set_cons_zero, List.set_cons_succ, Nat.zero_add, Nat.reduceAdd, List.drop_succ_cons, List.drop_zero]
          rw [e14, e15]
          have sp15 := (hsp.le 15 (by omega)).1
          generalize l0 15 = bp at bk15 lt15 sp15 ⊢
          clear e14 f14 e15 hsp
          have hEY : Ext wr w2 := (Ext.refl wr).drew.trans hr
          have hB2 : w2.heap[bp]? = some (.cells #[.int .i64 0, .int .i64 0] 97) := bk15
          have hbp : wr.heap.size ≤ bp := sp15
          have d0 := cell_of_heap hB2 0
          have d1 := cell_of_heap hB2 1
          have e0 : w2.frozen? ⟨bp, 0, none⟩ = false := cell_frozen hB2 0
          have e1 : w2.frozen? ⟨bp, 1, none⟩ = false := cell_frozen hB2 1
          go_upto_region 14 with (fail)
          obtain ⟨X, hX⟩ : ∃ X, X = (w2.setCell ⟨bp, 0, none⟩ (.int .i64 sh)).setCell ⟨bp, 1, none⟩ (.int .i64 su) := ⟨_, rfl⟩
          have hEX2 : Ext wr X := by rw [hX]; exact Ext.setCell (Ext.setCell hEY (p := ⟨bp, 0, none⟩) hbp _) (p := ⟨bp, 1, none⟩) hbp _
          have mp : X.heap[bp]? = some (.cells #[.int .i64 sh, .int .i64 su] 97) := by rw [hX]; exact heap_pair hB2
          have hcx := HCA.out.ext hEX2
          have hnb : bm ≠ bp ∧ bm + 1 ≠ bp ∧ bm ≠ bm + 1 := by
            have h1 := HCA.out.lt
            have h2 := HCB.out
            obtain ⟨g, hg, -⟩ := h2
            have := hg.lt
            omega
          rw [← hX]
          obtain ⟨stp, ob0, ob1, he0, he1, he2, he3⟩ := cnt_entry hcx (by unfold maxLen; omega) HKEY.out
          rw [HCF.out] at he1 he2
          obtain ⟨ob2, he4, he5⟩ := he3 ((n : Int) + 1) (WalkArith.wf_i64 (by omega))
          have HEX2 := Lib.hid hEX2
          have HMP := Lib.hid mp
          have HNB := Lib.hid hnb
          have HE0 := Lib.hid he0
          have HEN := Lib.hid he1
          have HLK := Lib.hid he2
          have HST := Lib.hid he4
          have HCU := Lib.hid he5
          have hwn : IntKind.i64.wrap ((n : Int) + 1) = (n : Int) + 1 := IntWalk.i64_in _ (by omega)
          clear hEY hB2 hbp d0 d1 e0 e1 hX hEX2 mp hcx hnb he0 he1 he2 he3 he4 he5 bk15 lt15 sp15 hr HKC HS HU
          refine wp_region_facts 6 [[], [], [0, 1], [2], [0, 1], [4]] [0, 3, 4, 5] (Rm bm ob0 ob1) (FL [Is (.map (some bm)), Is (.agg #[.int .i64 sh, .int .i64 su]), Is (.int .i64 (n : Int)), Is (.int .i64 ((n : Int) + 1)), EntF bm ob1 (.tuple #[.int .i64 (n : Int), goInt stp]), Is (.int .i64 stp)]) (by kernel_rfl) (by kernel_rfl) Rm.refl (fun _ _ _ => Rm.trans) (fun _ _ => Rm.size) (FL.mono ⟨IsR.mono, IsR.mono, IsR.mono, IsR.mono, EntF.mono, IsR.mono, trivial⟩) ⟨?_, ?_, ?_, ?_, ?_, ?_, trivial⟩ ?_
          · refine opF_step ?_
            intro ys l0 h0 w' hr hf K hK
            clear hf
            simp only [fill, Act.put, dstO, List.take_succ_cons, List.take_zero, List.setIfInBounds_toArray, List.set_cons_zero, List.set_cons_succ, List.getElem?_cons_zero, Nat.zero_add, Nat.reduceAdd] at hK ⊢
            refine OpB.mk' ?_
            go_simp
            exact hK.out _ _ rfl (Rm.refl _)
          · refine opF_step ?_
            intro ys l0 h0 w' hr hf K hK
            clear hf
            have j0 := hr.1.cell (show X.drew.cell? ⟨bp, 0, none⟩ = some (.int .i64 sh) from cell_of_heap HMP.out 0) (by simp only [ne_eq, Option.some.injEq]; exact fun e => HNB.out.1 e.symm)
            have j1 := hr.1.cell (show X.drew.cell? ⟨bp, 1, none⟩ = some (.int .i64 su) from cell_of_heap HMP.out 1) (by simp only [ne_eq, Option.some.injEq]; exact fun e => HNB.out.1 e.symm)
            simp only [fill, Act.put, dstO, List.take_succ_cons, List.take_zero, List.setIfInBounds_toArray, List.set_cons_zero, List.set_cons_succ, List.getElem?_cons_zero, List.getElem?_cons_succ, Nat.zero_add, Nat.reduceAdd] at hK ⊢
            refine OpB.mk' ?_
            go_simp
            exact hK.out _ _ rfl (Rm.refl _)
          · refine opF_step ?_
            intro ys l0 h0 w' hr hf K hK
            obtain ⟨f0, f1, -⟩ := hf
            have e0 : ys 0 = _ := f0
            have e1 : ys 1 = _ := f1
            have hl := HLK.out w' (hr.either HE0.out)
            simp only [fill, Act.put, dstO, List.take_succ_cons, List.take_zero, List.setIfInBounds_toArray, List.set_cons_zero, List.set_cons_succ, List.getElem?_cons_zero, List.getElem?_cons_succ, Nat.zero_add, Nat.reduceAdd] at hK ⊢
            simp only [e0, e1] at hK ⊢
            clear e0 e1 f0 f1
            refine OpB.mk' ?_
            go_simp
            exact hK.out _ _ rfl (Rm.refl _)
          · refine opF_step ?_
            intro ys l0 h0 w' hr hf K hK
            obtain ⟨f0, -⟩ := hf
            have e0 : ys 2 = _ := f0
            simp only [fill, Act.put, dstO, List.take_succ_cons, List.take_zero, List.setIfInBounds_toArray, List.set_cons_zero, List.set_cons_succ, List.getElem?_cons_zero, List.getElem?_cons_succ, Nat.zero_add, Nat.reduceAdd] at hK ⊢
            simp only [e0] at hK ⊢
            clear e0 f0
            refine OpB.mk' ?_
            go_simp
            exact hK.out _ _ rfl (Rm.refl _)
          · refine opF_step ?_
            intro ys l0 h0 w' hr hf K hK
            obtain ⟨f0, f1, -⟩ := hf
            have e0 : ys 0 = _ := f0
            have e1 : ys 1 = _ := f1
            have hR := Rm.entry (hr.either HE0.out)
            have hs : (setBlock w' bm ob1).heap[bm]? = some ob1 := block_same _ (by rcases hr.either HE0.out with h2 | h2 <;> exact (Array.getElem?_eq_some_iff.1 h2).1)
            have hl := HEN.out w' (hr.either HE0.out)
            simp only [fill, Act.put, dstO, List.take_succ_cons, List.take_zero, List.setIfInBounds_toArray, List.set_cons_zero, List.set_cons_succ, List.getElem?_cons_zero, List.getElem?_cons_succ, Nat.zero_add, Nat.reduceAdd] at hK ⊢
            simp only [e0, e1] at hK ⊢
            clear e0 e1 f0 f1
            refine OpB.mk' ?_
            go_simp
            exact hK.out _ _ ⟨rfl, hs⟩ hR
          · refine opF_step ?_
            intro ys l0 h0 w' hr hf K hK
            obtain ⟨f0, -⟩ := hf
            obtain ⟨e0, -⟩ := f0
            simp only [fill, Act.put, dstO, List.take_succ_cons, List.take_zero, List.setIfInBounds_toArray, List.set_cons_zero, List.set_cons_succ, List.getElem?_cons_zero, List.getElem?_cons_succ, Nat.zero_add, Nat.reduceAdd] at hK ⊢
            simp only [e0] at hK ⊢
            clear e0
            refine OpB.mk' ?_
            go_simp
            exact hK.out _ _ rfl (Rm.refl _)
          intro ys l0 h0 w3 hr hf hsp
          obtain ⟨f0, f3, ⟨e4, hb1⟩, f5, -⟩ := hf
          have e0 : ys 0 = _ := f0
          have e3 : ys 3 = _ := f3
          have e5 : ys 5 = _ := f5
          simp only [fill, Act.put, List.take_succ_cons, List.take_zero, List.setIfInBounds_toArray, List.set_cons_zero, List.set_cons_succ, Nat.zero_add, Nat.reduceAdd, List.drop_succ_cons, List.drop_zero]
          rw [e0, e3, e4, e5]
          clear e0 e3 e4 e5 f0 f3 f5 hsp
          have hst : (Instr.entryStore 94 (.map (some bm)) (.int .i64 (stp : Int)) (.int .i64 ((n : Int) + 1))).run Tryd.prog w3 = .ok () (setBlock w3 bm ob2) := HST.out w3 hb1
          go_upto_region 15 with (fail)
          have hlt3 : bm < w3.heap.size := (Array.getElem?_eq_some_iff.1 hb1).1
          obtain ⟨X3, hX3⟩ : ∃ X3, X3 = setBlock w3 bm ob2 := ⟨_, rfl⟩
          have hg3 : X.drew.grownBy X3 (some bm) := by rw [hX3]; exact hr.1.trans (grown_block _ _ _)
          obtain ⟨c1, hc1⟩ : ∃ c1, c1 = (n : Int) + 1 := ⟨_, rfl⟩
          have hm3 : CntMap X3 97 bm (j + 1) (cntUp f (pk sh su) c1) := by rw [hX3, hc1]; exact HCU.out _ (block_same _ hlt3)
          have hXd : Ext W X.drew := (HEX.out.trans HEX2.out).drew
          have hE3 : Ext W X3 := Below.grown hXd hg3 hXd.size (fun i hi => by cases hi; exact HBM.out)
          have hbpX : bp < X.heap.size := (Array.getElem?_eq_some_iff.1 HMP.out).1
          have hmp3 : X3.heap[bp]? = some (.cells #[.int .i64 sh, .int .i64 su] 97) := (hg3.block bp hbpX (fun e => HNB.out.1 (Option.some.inj e).symm)).trans HMP.out
          obtain ⟨g, hg, hgf⟩ := HCB.out
          have hcb3 : CntMap X3 3 (bm + 1) j g := (hg.ext HEX2.out.drew).kept hg3 (fun e => HNB.out.2.2 (Option.some.inj e).symm)
          have hgs := hgf sh
          obtain ⟨m0, hm0⟩ : ∃ m0, m0 = manyT 1536 k M.weeks.length T j sh := ⟨_, rfl⟩
          have hmle := manyT_le 1536 k M.weeks.length T j sh
          rw [← hm0] at hmle
          rw [← hX3]
          have HX3 := Lib.hid (⟨hE3, hmp3⟩ : Ext W X3 ∧ X3.heap[bp]? = some (.cells #[.int .i64 sh, .int .i64 su] 97))
          have HC3 := Lib.hid hm3
          have HG3 := Lib.hid hcb3
          have HGF := Lib.hid hgf
          have HGS := Lib.hid (show g (.int .i64 sh) = (m0 : Int) from hgs.trans (by rw [hm0]))
          have HM0 := Lib.hid hm0
          have HC1 := Lib.hid hc1
          have d0 := cell_of_heap hmp3 0
          have d1 := cell_of_heap hmp3 1
          have HKY := Lib.hid HKEY.out
          clear hst hlt3 hX3 hg3 hm3 hXd hE3 hmp3 hg hcb3 hgf hgs hm0 hr hb1 hwn HST HCU HEN HLK HE0 HMP hc1
          by_cases hn0 : 0 < n
          · have g1 : (c1 == 1) = false := by have := HC1.out; simp; omega
            have HOL := Lib.hid (HOLD.out hn0)
            have HWO := Lib.hid (HWOLD.out hn0)
            have HFF := Lib.hid (show ∀ s m, (Lit.int .i64 s).wf = true → (Lit.int .i64 m).wf = true → cntUp f (pk sh su) c1 (pk s m) = (cntP k M.weeks.length T (j + 1) s m : Nat) from by rw [HC1.out]; exact HFS.out)
            clear hn0
            go_wp2_with (at_lookup; refine wp_cnt_look _ rfl _ _ _ rfl 97 law_pair Tryd.underlying94 bm (j + 1) _ rfl HC3.out _ (pk sh su) rfl HKY.out ?_; rw [cntUp_same])
            go_roundw
            case rel => exact ⟨j + 1, by omega, by simp, by rw [HWO.out], HX3.out.1, ⟨g, HG3.out.mono (by omega), fun s => (HGF.out s).trans (by simp only [HOL.out])⟩, _, HC3.out, HFF.out⟩
            case measure => simp [intOf]; omega
          · have hn1 : n = 0 := by omega
            have hc1' : c1 = 1 := by rw [HC1.out, hn1]; rfl
            subst hc1'
            have hmj : manyT 1536 k M.weeks.length T (j + 1) sh = m0 + 1 := by rw [HNEW.out hn1, if_pos rfl, HM0.out]
            have hwn : worstT 100 1536 k M.weeks.length T (j + 1) = max (worstT 100 1536 k M.weeks.length T j) (m0 + 1) := by rw [HWNEW.out hn1, hmj]
            have HNE := Lib.hid (HNEW.out hn1)
            have HFF := Lib.hid (show ∀ s m, (Lit.int .i64 s).wf = true → (Lit.int .i64 m).wf = true → cntUp f (pk sh su) 1 (pk s m) = (cntP k M.weeks.length T (j + 1) s m : Nat) from by rw [HC1.out]; exact HFS.out)
            have hwm : IntKind.i64.wrap ((m0 : Int) + 1) = (m0 : Int) + 1 := IntWalk.i64_in _ (by omega)
            obtain ⟨wo, hwo⟩ : ∃ x, x = worstT 100 1536 k M.weeks.length T j := ⟨_, rfl⟩
            rw [← hwo] at hwl hwn ⊢
            have HWN := Lib.hid hwn
            have hwsh : (Lit.int .i64 sh).wf = true := HWS.out
            have HSH := Lib.hid hwsh
            clear hwn hmj hwsh hn0 hn1 hwo
            go_wp2_with (first
              | (at_lookup; refine wp_cnt_look _ rfl _ _ _ rfl 97 law_pair Tryd.underlying94 bm (j + 1) _ rfl HC3.out _ (pk sh su) rfl HKY.out ?_; rw [cntUp_same])
              | (at_lookup; refine wp_cnt_look _ rfl _ _ _ rfl 3 law_int Tryd.underlying95 (bm + 1) (j + 1) _ rfl HC4.out _ (.int .i64 sh) rfl (key_int HSH.out) ?_; rw [cntUp_same])
              | (at_lookup; refine wp_cnt_look _ rfl _ _ _ rfl 3 law_int Tryd.underlying95 (bm + 1) j g rfl HG3.out _ (.int .i64 sh) rfl (key_int HSH.out) ?_; rw [HGS.out])
              | (at_mapUpdate; refine wp_cnt_put _ rfl _ _ _ _ rfl 3 law_int Tryd.underlying95 (bm + 1) j g rfl HG3.out (by unfold maxLen; omega) _ (.int .i64 sh) rfl (key_int HSH.out) ((m0 : Int) + 1) rfl (WalkArith.wf_i64 (by omega)) ?_; intro w4 hc4 hg4; have HC4 := Lib.hid hc4; have HG4 := Lib.hid hg4; have k0 := hg4.cell d0 (fun e => HNB.out.2.1 (Option.some.inj e).symm); have k1 := hg4.cell d1 (fun e => HNB.out.2.1 (Option.some.inj e).symm); clear hc4 hg4))
            refine ⟨⟨j + 1, by omega, by simp, ?_, Below.grown HX3.out.1 HG4.out HX3.out.1.size (fun i hi => by cases hi; have := HBM.out; omega), ⟨_, HC4.out, fun s => ?_⟩, _, HC3.out.kept HG4.out (fun e => HNB.out.2.2 (Option.some.inj e)), HFF.out⟩, by simp [intOf]; omega⟩
            · rw [HWN.out]
              split
              · rw [Nat.max_eq_right (by omega)]; rfl
              · rw [Nat.max_eq_left (by omega)]
            · show cntUp g (.int .i64 sh) ((m0 : Int) + 1) (.int .i64 s) = ((manyT 1536 k M.weeks.length T (j + 1) s : Nat) : Int)
              rw [HNE.out]
              by_cases e : s = sh
              · subst e
                rw [cntUp_same, if_pos rfl, ← HM0.out]
                rfl
              · rw [cntUp_other _ _ (fun h => e (by injection h)), if_neg e, HGF.out]
                rfl
        · obtain rfl : j = T.length := by omega
          rw [HWFK.out] at hwl ⊢
          obtain ⟨mo, hmo⟩ : ∃ x, x = mostN M k := ⟨_, rfl⟩
          have hrs := HRS.out
          unfold refStep at hrs
          have hpe : refTo M k = (bst, lst) := Prod.ext HRK.out.1.symm HRK.out.2.symm
          rw [hpe, ← hmo] at hrs
          simp only at hrs
          rw [← hmo] at hwl hmb ⊢
          have hwk : IntKind.i64.wrap ((k : Int) + 1) = (k : Int) + 1 := IntWalk.i64_in _ (by omega)
          by_cases h1 : lst < 0
          · rw [if_pos (Or.inl h1)] at hrs
            have HRS2 := Lib.hid hrs
            clear hrs hpe hmo
            go_wp2
            go_roundw
            case rel => exact ⟨k + 1, by omega, by simp, by rw [HRS2.out], by rw [HRS2.out], HEX.out⟩
            case measure => simp [intOf]; omega
          · by_cases h2 : (mo : Int) < lst
            · rw [if_pos (Or.inr h2)] at hrs
              have HRS2 := Lib.hid hrs
              clear hrs hpe hmo
              go_wp2
              go_roundw
              case rel => exact ⟨k + 1, by omega, by simp, by rw [HRS2.out], by rw [HRS2.out], HEX.out⟩
              case measure => simp [intOf]; omega
            · rw [if_neg (fun h => h.elim h1 h2)] at hrs
              have HRS2 := Lib.hid hrs
              have h1' : decide (lst < 0) = false := decide_eq_false h1
              have h2' : decide ((mo : Int) < lst) = false := decide_eq_false h2
              clear hrs hpe hmo h1 h2
              go_wp2
              go_roundw
              case rel => exact ⟨k + 1, by omega, by simp, by rw [HRS2.out], by rw [HRS2.out], HEX.out⟩
              case measure => simp [intOf]; omega
    · obtain rfl : k = M.weeks.length + 1 := by omega
      have HIA := Lib.hid (by have h := IsAfter04 M ((M.weeks.length + 1 : Nat) : Int) _ wr (HQW.out wr hE).2; rwa [show winB ((M.weeks.length + 1 : Nat) : Int) 0 M.weeks.length = false from Bool.eq_false_iff.2 (fun e => by have := winB_iff.1 e; omega)] at h : Calls Tryd.prog 27 #[.agg #[.slice p M.weeks.length c, .slice qq M.reads.length d, .int .i64 M.wrong], .int .i64 ((M.weeks.length + 1 : Nat) : Int)] wr (RetE (.bool false) wr))
      obtain ⟨kk, hkk⟩ : ∃ kk, kk = M.weeks.length + 1 := ⟨_, rfl⟩
      rw [← hkk] at HIA HA ⊢
      clear hE hkk
      go_wp2_with (go_at_call 27; refine HIA.out.mono ?_; rintro e w2 ⟨rfl, hE2⟩)
      go_ret2
      exact RetE.fin ((HE.out.trans HEW.out).trans hE2) (by rw [HA.out, ← HZ.out]; rfl)
end Go.Proofs.YtimelbcfaniifaaDoor
