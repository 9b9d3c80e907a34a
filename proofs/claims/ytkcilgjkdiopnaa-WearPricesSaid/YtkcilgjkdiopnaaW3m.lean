/- The walk of choices: the function that yields each choice. -/
import Derived.Test.YtkcilgjkdiopnaaW3l
import Derived.Test.YtkcilgjkdiopnaaRn3
namespace Go.Proofs.Ytkcilgjkdiopnaa
open Go.RowKit
attribute [local go_sem] Oper.semAt_some

/-- the choices of the first n sets of needles -/
def chTo (X : Wr) (long n : Nat) : List Ch := (List.range n).filterMap fun N => chooseW X N long
theorem chTo_succ (X : Wr) (long n : Nat) : chTo X long (n + 1) = chTo X long n ++ (chooseW X n long).toList := by
  unfold chTo
  rw [List.range_succ, List.filterMap_append]
  cases h : chooseW X n long <;> simp [h]
theorem chTo_prefix (X : Wr) (long : Nat) {n m : Nat} (h : n ≤ m) : chTo X long n <+: chTo X long m := by
  induction m with
  | zero => obtain rfl : n = 0 := by omega
            exact List.prefix_refl _
  | succ m ih =>
    by_cases e : n = m + 1
    · rw [e]; exact List.prefix_refl _
    · rw [chTo_succ]
      exact (ih (by omega)).trans (List.prefix_append _ _)

set_option maxHeartbeats 1600000 in
theorem choices03 (X : Wr) (p q : Option Addr) (c d long : Nat) (w : World) :
    Calls Try.prog 64 #[.agg #[.int .i64 X.weeks, .int .i64 X.price, .int .i64 X.age, .int .i64 X.step, .slice p X.rough.length c, .slice q X.recs.length d], .int .i64 long] w fun e w' =>
      e = .returned (.func (.func 93) #[] #[.pointer (some ⟨w.heap.size + 1, 0, none⟩), .pointer (some ⟨w.heap.size, 0, none⟩)]) ∧
      w'.heap[w.heap.size]? = some (bxO X p c q d) ∧ w'.heap[w.heap.size + 1]? = some (.cells #[.int .i64 long] 3) ∧ Ext w w' := by
  go_enter Try.func64, Try.ntmps64
  go_upto_region 1 with (fail)
  obtain ⟨W, hW⟩ : ∃ W, W = (w.alloc (bxO X p c q d)).alloc (.cells #[.int .i64 long] 3) := ⟨_, rfl⟩
  have hn1 := heap_new1 w (bxO X p c q d) (.cells #[.int .i64 long] 3)
  have hn2 := heap_new2 w (bxO X p c q d) (.cells #[.int .i64 long] 3)
  have hE : Ext w W := by rw [hW]; exact Ext.alloc (Ext.alloc (Ext.refl w) _) _
  rw [← hW] at hn1 hn2
  unfold bxO at hW
  rw [← hW]
  clear hW
  go_wp2
  go_ret
  exact ⟨rfl, hn1, hn2, hE⟩

/-- the blocks of the iterator -/
structure CiAt (X : Wr) (p q : Option Addr) (c d b long : Nat) (a W : World) : Prop where
  box : W.heap[b]? = some (bxO X p c q d)
  long : W.heap[b + 1]? = some (.cells #[.int .i64 long] 3)
  ext : Ext a W
theorem CiAt.fr {X : Wr} {p q : Option Addr} {c d b long : Nat} {a w W : World} {E : Nat → Prop} (h : CiAt X p q c d b long a w) (hF : Fr E w W) (h0 : ¬E b) (h1 : ¬E (b + 1)) (ha : ∀ k, E k → a.heap.size ≤ k) : CiAt X p q c d b long a W :=
  ⟨(hF.block b (Array.getElem?_eq_some_iff.1 h.box).1 h0).trans h.box, (hF.block _ (Array.getElem?_eq_some_iff.1 h.long).1 h1).trans h.long, Fr.ext h.ext hF ha⟩

set_option maxRecDepth 20000 in
set_option maxHeartbeats 3200000 in
theorem itch03 (X : Wr) (hX : ValidW X) (p q : Option Addr) (c d b long : Nat) (hl : (long : Int) ≤ X.weeks) (w : World) (E : Nat → Prop) (lp : Nat)
    (wa : World) (hIt : CiAt X p q c d b long wa w) (hR : RecsAt wa q X.recs) (hG : IntsAt wa p X.rough)
    (hE : ∀ k, E k → wa.heap.size ≤ k ∧ k ≠ b ∧ k ≠ b + 1)
    (J Jx : List Ch → World → Prop) (hJ : ∀ pre W W', J pre W → Fr (fun _ => False) W W' → w.heap.size + 2 ≤ W.heap.size → J pre W')
    (hJx : ∀ pre W W', Jx pre W → Fr (fun _ => False) W W' → w.heap.size + 2 ≤ W.heap.size → Jx pre W')
    (hY : YieldV Try.prog lp (ChOK X) E w.heap.size (fun pre x v W => ChK (w.heap.size + 2) W v x ∧ pre.length < 64) J Jx)
    (W : World) (hW : Ext w W) (hz : w.heap.size + 2 ≤ W.heap.size) (hj : J [] W) :
    Calls Try.prog 93 #[.func (.yield lp) #[] #[], .pointer (some ⟨b + 1, 0, none⟩), .pointer (some ⟨b, 0, none⟩)] W fun e W' =>
      (∃ v, e = .returned v) ∧ ((J (choicesW X long) W' ∧ True) ∨ ∃ pre, pre <+: choicesW X long ∧ Jx pre W') ∧ w.heap.size + 2 ≤ W'.heap.size := by
  have hl6 : long ≤ 6 := by have := hX.weeks; omega
  have hbw : b + 1 < w.heap.size := (Array.getElem?_eq_some_iff.1 hIt.long).1
  have hwaw := hIt.ext.size
  have HIT : Hid (∀ W, Fr (fun k => E k ∨ w.heap.size ≤ k) w W → CiAt X p q c d b long wa W) := Lib.hid fun W hF => by
    refine hIt.fr hF ?_ ?_ ?_
    · rintro (h | h)
      · exact (hE _ h).2.1 rfl
      · omega
    · rintro (h | h)
      · exact (hE _ h).2.2 rfl
      · omega
    · rintro k (h | h)
      · exact (hE _ h).1
      · omega
  have HRA := Lib.hid hR
  have HGA := Lib.hid hG
  have HEE := Lib.hid hE
  have HJ := Lib.hid hJ
  have HJX := Lib.hid hJx
  have HY := Lib.hid hY
  have HX := Lib.hid hX
  have HJ0 := Lib.hid hj
  have HW := Lib.hid hW
  have hI0 := HIT.out W (hW.fr _)
  have hlc : W.cell? ⟨b + 1, 0, none⟩ = some (.int .i64 long) := (cell_of_heap hI0.long 0).trans rfl
  have hpw := wrap_pow long (by omega)
  obtain ⟨M, hM⟩ : ∃ M : Nat, M = 2 ^ long := ⟨_, rfl⟩
  rw [← hM] at hpw
  have hM64 : M ≤ 64 := by rw [hM]; exact Nat.pow_le_pow_right (n := 2) (by decide) hl6
  have HM := Lib.hid hM
  clear hIt hE hJ hJx hY hX hj hW hI0 hR hG hM
  go_enter Try.func93, Try.ntmps93
  go_wp2
  go_loopw [9] (fun i wr => ∃ n : Nat, n ≤ M ∧ i = .int .u64 n ∧ J (chTo X long n) wr ∧ Fr (fun k => E k ∨ w.heap.size ≤ k) w wr ∧ w.heap.size + 2 ≤ wr.heap.size) (fun i _ => M - (intOf i).toNat)
  case atStart => exact ⟨0, by omega, rfl, HJ0.out, HW.out.fr _, hz⟩
  case round =>
    clear hlc HJ0 HW hz
    clear W
    obtain ⟨n, hn, rfl, hj, hF, hz⟩ := hrel
    have HJN := Lib.hid hj
    have HF := Lib.hid hF
    have hIt := HIT.out wr hF
    clear hj hF
    by_cases hlt : n < M
    · have hb0 : wr.cell? ⟨b, 0, none⟩ = some (.int .i64 X.weeks) := (cell_of_heap hIt.box 0).trans rfl
      have hb1 : wr.cell? ⟨b, 1, none⟩ = some (.int .i64 X.price) := (cell_of_heap hIt.box 1).trans rfl
      have hb2 : wr.cell? ⟨b, 2, none⟩ = some (.int .i64 X.age) := (cell_of_heap hIt.box 2).trans rfl
      have hb3 : wr.cell? ⟨b, 3, none⟩ = some (.int .i64 X.step) := (cell_of_heap hIt.box 3).trans rfl
      have hb4 : wr.cell? ⟨b, 4, none⟩ = some (.slice p X.rough.length c) := (cell_of_heap hIt.box 4).trans rfl
      have hb5 : wr.cell? ⟨b, 5, none⟩ = some (.slice q X.recs.length d) := (cell_of_heap hIt.box 5).trans rfl
      have hlc : wr.cell? ⟨b + 1, 0, none⟩ = some (.int .i64 long) := (cell_of_heap hIt.long 0).trans rfl
      have HCH := Lib.hid (choose03 (.agg #[.int .i64 X.weeks, .int .i64 X.price, .int .i64 X.age, .int .i64 X.step, .slice p X.rough.length c, .slice q X.recs.length d]) X n long wr ⟨_, _, _, _, rfl, HGA.out.ext hIt.ext, HRA.out.ext hIt.ext⟩ HX.out hl (by omega))
      have hsn := chTo_succ X long n
      have hok := fun ch (h : chooseW X n long = some ch) => (chooseW_ok HX.out hl6 (by rw [← HM.out]; exact hlt) h).1
      cases hco : chooseW X n long with
      | none =>
        rw [hco] at HCH hsn
        have HSN := Lib.hid hsn
        clear hsn hok hIt hco
        go_wp2_with (go_at_call 94; refine HCH.out.mono ?_; rintro e W2 ⟨hE2, rfl⟩; unfold zeroCh)
        go_roundw
        case rel =>
          refine ⟨n + 1, by omega, by go_num, ?_, (HF.out.trans (hE2.fr _)).alloc _, by rw [size_alloc]; have := hE2.size; omega⟩
          rw [HSN.out]
          simp only [Option.toList, List.append_nil]
          exact HJ.out _ _ _ HJN.out ((hE2.fr _).alloc _) hz
        case measure => simp [intOf]; omega
      | some ch =>
        rw [hco] at HCH hsn
        have HSN := Lib.hid hsn
        have HOK := Lib.hid (hok ch hco)
        clear hsn hok hIt hco
        go_upto_region 4 with (go_at_call 94; refine HCH.out.mono ?_; rintro e W2 ⟨hE2, vch, rfl, ⟨mp, mc, rfl, hma, hmb, hmt⟩⟩)
        obtain ⟨W3, hW3⟩ : ∃ W3, W3 = W2.alloc (.cells #[.int .u64 ch.needles, .slice mp ch.records.length mc] 105) := ⟨_, rfl⟩
        have hn3 := heap_new W2 (.cells #[.int .u64 ch.needles, .slice mp ch.records.length mc] 105)
        rw [← hW3] at hn3 ⊢
        have hE3 : Ext wr W3 := by rw [hW3]; exact Ext.alloc hE2 _
        have hma3 := hma.ext (show Ext W2 W3 by rw [hW3]; exact Ext.alloc (Ext.refl _) _)
        have hmt3 : ∀ a, mp = some a → ∃ cs, W3.heap[a.block]? = some (.cells cs 102 (0, 0)) := fun a ha => by
          obtain ⟨cs, hcs⟩ := hmt a ha
          exact ⟨cs, by rw [hW3]; exact heap_old _ hcs⟩
        have hln : (chTo X long n).length < 64 := by
          have h1 := List.length_filterMap_le (fun N => chooseW X N long) (List.range n)
          rw [List.length_range] at h1
          unfold chTo
          omega
        have e0 : W3.cell? ⟨W2.heap.size, 0, none⟩ = some (.int .u64 ch.needles) := (cell_of_heap hn3 0).trans rfl
        have e1 : W3.cell? ⟨W2.heap.size, 1, none⟩ = some (.slice mp ch.records.length mc) := (cell_of_heap hn3 1).trans rfl
        have hz3 : w.heap.size + 2 ≤ W3.heap.size := by have := hE3.size; omega
        obtain ⟨fn, tmps, ag, bd, hy, hR⟩ := HY.out (chTo X long n) ch (.agg #[.int .u64 ch.needles, .slice mp ch.records.length mc]) W3 HOK.out (HJ.out _ _ _ HJN.out (hE3.fr _) hz) ⟨⟨_, _, rfl, hma3, fun a ha => by have := hmb a ha; omega, hmt3⟩, hln⟩ hz3
        have hR' := Lib.hid hR
        have HF3 := Lib.hid (HF.out.trans (hE3.fr _))
        clear hW3 hn3 hE2 hE3 hma hma3 hR hmb hmt hmt3 hln
        refine (wpIn_wide (n := 0)).1 ?_
        gi_wp2
        refine ⟨rfl, hR'.out.mono ?_⟩
        rintro e W7 ⟨(⟨rfl, hj7⟩ | ⟨rfl, hj7⟩), hF7⟩
        · have HJ7 := Lib.hid hj7
          have HF7 := Lib.hid hF7
          clear hj7 hF7 hy
          gi_wp2
          go_wp2
          go_roundw
          case rel =>
            refine ⟨n + 1, by omega, by go_num, by rw [HSN.out]; exact HJ7.out, HF3.out.trans (HF7.out.mono fun i h => h.elim .inl (fun h => .inr (by omega))), by have := HF7.out.size; omega⟩
          case measure => simp [intOf]; omega
        · have HJ7 := Lib.hid hj7
          have HF7 := Lib.hid hF7
          clear hj7 hF7 hy
          gi_wp2
          go_wp2
          refine bodyPost_ret (results_none rfl _ _ _) rfl ?_
          refine ⟨⟨_, rfl⟩, .inr ⟨_, ?_, HJ7.out⟩, by have := HF7.out.size; omega⟩
          have h1 := chTo_prefix X long (n := n + 1) (m := M) (by omega)
          rw [HSN.out, HM.out] at h1
          exact h1
    · obtain rfl : n = M := by omega
      go_wp2
      go_end0
      refine ⟨⟨_, rfl⟩, .inl ⟨?_, trivial⟩, hz⟩
      have := HJN.out
      rw [HM.out] at this
      exact this
end Go.Proofs.Ytkcilgjkdiopnaa
