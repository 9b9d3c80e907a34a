/- The walk of choices: the function that yields each choice. The walk of least. The walk of seek, and of Cheapest. The walks of Cheapest and Last, of a valid box. The walk of Last, of a valid box. -/
import Derived.Test.YtkcilgjkdiopnaaVD
import Derived.Test.YtkcilgjkdiopnaaVA
import Derived.Test.YtkcilgjkdiopnaaVC
namespace Go.Proofs.Ytkcilgjkdiopnaa
open Go.RowKit
attribute [local go_sem] Oper.semAt_some

/-- the choices of the first n sets of needles -/
def chTo (X : Wr) (long n : Nat) : List Ch := (List.range n).filterMap fun N => chooseW X N long
theorem chTo_succ (X : Wr) (long n : Nat) : chTo X long (n + 1) = chTo X long n ++ (chooseW X n long).toList := by
  unfold chTo
  rw [List.range_succ, List.filterMap_append]
  cases h : chooseW X n long <;> simp [h]
theorem chTo_prefix (X : Wr) (long : Nat) {n m : Nat} (h : n ≤ m) : chTo X long n <+: chTo X long m := by
  induction m with
  | zero => obtain rfl : n = 0 := by omega
            exact List.prefix_refl _
  | succ m ih =>
    by_cases e : n = m + 1
    · rw [e]; exact List.prefix_refl _
    · rw [chTo_succ]
      exact (ih (by omega)).trans (List.prefix_append _ _)

set_option maxHeartbeats 1600000 in
theorem choices03 (X : Wr) (p q : Option Addr) (c d long : Nat) (w : World) :
    Calls Try.prog 64 #[.agg #[.int .i64 X.weeks, .int .i64 X.price, .int .i64 X.age, .int .i64 X.step, .slice p X.rough.length c, .slice q X.recs.length d], .int .i64 long] w fun e w' =>
      e = .returned (.func (.func 93) #[] #[.pointer (some ⟨w.heap.size + 1, 0, none⟩), .pointer (some ⟨w.heap.size, 0, none⟩)]) ∧
      w'.heap[w.heap.size]? = some (bxO X p c q d) ∧ w'.heap[w.heap.size + 1]? = some (.cells #[.int .i64 long] 3) ∧ Ext w w' := by
  go_enter Try.func64, Try.ntmps64
  go_upto_region 1 with (fail)
  obtain ⟨W, hW⟩ : ∃ W, W = (w.alloc (bxO X p c q d)).alloc (.cells #[.int .i64 long] 3) := ⟨_, rfl⟩
  have hn1 := heap_new1 w (bxO X p c q d) (.cells #[.int .i64 long] 3)
  have hn2 := heap_new2 w (bxO X p c q d) (.cells #[.int .i64 long] 3)
  have hE : Ext w W := by rw [hW]; exact Ext.alloc (Ext.alloc (Ext.refl w) _) _
  rw [← hW] at hn1 hn2
  unfold bxO at hW
  rw [← hW]
  clear hW
  go_wp2
  go_ret
  exact ⟨rfl, hn1, hn2, hE⟩

/-- the blocks of the iterator -/
structure CiAt (X : Wr) (p q : Option Addr) (c d b long : Nat) (a W : World) : Prop where
  box : W.heap[b]? = some (bxO X p c q d)
  long : W.heap[b + 1]? = some (.cells #[.int .i64 long] 3)
  ext : Ext a W
theorem CiAt.fr {X : Wr} {p q : Option Addr} {c d b long : Nat} {a w W : World} {E : Nat → Prop} (h : CiAt X p q c d b long a w) (hF : Fr E w W) (h0 : ¬E b) (h1 : ¬E (b + 1)) (ha : ∀ k, E k → a.heap.size ≤ k) : CiAt X p q c d b long a W :=
  ⟨(hF.block b (Array.getElem?_eq_some_iff.1 h.box).1 h0).trans h.box, (hF.block _ (Array.getElem?_eq_some_iff.1 h.long).1 h1).trans h.long, Fr.ext h.ext hF ha⟩

set_option maxRecDepth 20000 in
set_option maxHeartbeats 3200000 in
theorem itch03 (X : Wr) (hX : ValidW X) (p q : Option Addr) (c d b long : Nat) (hl : (long : Int) ≤ X.weeks) (w : World) (E : Nat → Prop) (lp : Nat)
    (wa : World) (hIt : CiAt X p q c d b long wa w) (hR : RecsAt wa q X.recs) (hG : IntsAt wa p X.rough)
    (hE : ∀ k, E k → wa.heap.size ≤ k ∧ k ≠ b ∧ k ≠ b + 1)
    (J Jx : List Ch → World → Prop) (hJ : ∀ pre W W', J pre W → Fr (fun _ => False) W W' → w.heap.size + 2 ≤ W.heap.size → J pre W')
    (hJx : ∀ pre W W', Jx pre W → Fr (fun _ => False) W W' → w.heap.size + 2 ≤ W.heap.size → Jx pre W')
    (hY : YieldV Try.prog lp (ChOK X) E w.heap.size (fun pre x v W => ChK (w.heap.size + 2) W v x ∧ pre.length < 64) J Jx)
    (W : World) (hW : Ext w W) (hz : w.heap.size + 2 ≤ W.heap.size) (hj : J [] W) :
    Calls Try.prog 93 #[.func (.yield lp) #[] #[], .pointer (some ⟨b + 1, 0, none⟩), .pointer (some ⟨b, 0, none⟩)] W fun e W' =>
      (∃ v, e = .returned v) ∧ ((J (choicesW X long) W' ∧ True) ∨ ∃ pre, pre <+: choicesW X long ∧ Jx pre W') ∧ w.heap.size + 2 ≤ W'.heap.size := by
  have hl6 : long ≤ 6 := by have := hX.weeks; omega
  have hbw : b + 1 < w.heap.size := (Array.getElem?_eq_some_iff.1 hIt.long).1
  have hwaw := hIt.ext.size
  have HIT : Hid (∀ W, Fr (fun k => E k ∨ w.heap.size ≤ k) w W → CiAt X p q c d b long wa W) := Lib.hid fun W hF => by
    refine hIt.fr hF ?_ ?_ ?_
    · rintro (h | h)
      · exact (hE _ h).2.1 rfl
      · omega
    · rintro (h | h)
      · exact (hE _ h).2.2 rfl
      · omega
    · rintro k (h | h)
      · exact (hE _ h).1
      · omega
  have HRA := Lib.hid hR
  have HGA := Lib.hid hG
  have HEE := Lib.hid hE
  have HJ := Lib.hid hJ
  have HJX := Lib.hid hJx
  have HY := Lib.hid hY
  have HX := Lib.hid hX
  have HJ0 := Lib.hid hj
  have HW := Lib.hid hW
  have hI0 := HIT.out W (hW.fr _)
  have hlc : W.cell? ⟨b + 1, 0, none⟩ = some (.int .i64 long) := (cell_of_heap hI0.long 0).trans rfl
  have hpw := wrap_pow long (by omega)
  obtain ⟨M, hM⟩ : ∃ M : Nat, M = 2 ^ long := ⟨_, rfl⟩
  rw [← hM] at hpw
  have hM64 : M ≤ 64 := by rw [hM]; exact Nat.pow_le_pow_right (n := 2) (by decide) hl6
  have HM := Lib.hid hM
  clear hIt hE hJ hJx hY hX hj hW hI0 hR hG hM
  go_enter Try.func93, Try.ntmps93
  go_wp2
  go_loopw [9] (fun i wr => ∃ n : Nat, n ≤ M ∧ i = .int .u64 n ∧ J (chTo X long n) wr ∧ Fr (fun k => E k ∨ w.heap.size ≤ k) w wr ∧ w.heap.size + 2 ≤ wr.heap.size) (fun i _ => M - (intOf i).toNat)
  case atStart => exact ⟨0, by omega, rfl, HJ0.out, HW.out.fr _, hz⟩
  case round =>
    clear hlc HJ0 HW hz
    clear W
    obtain ⟨n, hn, rfl, hj, hF, hz⟩ := hrel
    have HJN := Lib.hid hj
    have HF := Lib.hid hF
    have hIt := HIT.out wr hF
    clear hj hF
    by_cases hlt : n < M
    · have hb0 : wr.cell? ⟨b, 0, none⟩ = some (.int .i64 X.weeks) := (cell_of_heap hIt.box 0).trans rfl
      have hb1 : wr.cell? ⟨b, 1, none⟩ = some (.int .i64 X.price) := (cell_of_heap hIt.box 1).trans rfl
      have hb2 : wr.cell? ⟨b, 2, none⟩ = some (.int .i64 X.age) := (cell_of_heap hIt.box 2).trans rfl
      have hb3 : wr.cell? ⟨b, 3, none⟩ = some (.int .i64 X.step) := (cell_of_heap hIt.box 3).trans rfl
      have hb4 : wr.cell? ⟨b, 4, none⟩ = some (.slice p X.rough.length c) := (cell_of_heap hIt.box 4).trans rfl
      have hb5 : wr.cell? ⟨b, 5, none⟩ = some (.slice q X.recs.length d) := (cell_of_heap hIt.box 5).trans rfl
      have hlc : wr.cell? ⟨b + 1, 0, none⟩ = some (.int .i64 long) := (cell_of_heap hIt.long 0).trans rfl
      have HCH := Lib.hid (choose03 (.agg #[.int .i64 X.weeks, .int .i64 X.price, .int .i64 X.age, .int .i64 X.step, .slice p X.rough.length c, .slice q X.recs.length d]) X n long wr ⟨_, _, _, _, rfl, HGA.out.ext hIt.ext, HRA.out.ext hIt.ext⟩ HX.out hl (by omega))
      have hsn := chTo_succ X long n
      have hok := fun ch (h : chooseW X n long = some ch) => (chooseW_ok HX.out hl6 (by rw [← HM.out]; exact hlt) h).1
      cases hco : chooseW X n long with
      | none =>
        rw [hco] at HCH hsn
        have HSN := Lib.hid hsn
        clear hsn hok hIt hco
        go_wp2_with (go_at_call 94; refine HCH.out.mono ?_; rintro e W2 ⟨hE2, rfl⟩; unfold zeroCh)
        go_roundw
        case rel =>
          refine ⟨n + 1, by omega, by go_num, ?_, (HF.out.trans (hE2.fr _)).alloc _, by rw [size_alloc]; have := hE2.size; omega⟩
          rw [HSN.out]
          simp only [Option.toList, List.append_nil]
          exact HJ.out _ _ _ HJN.out ((hE2.fr _).alloc _) hz
        case measure => simp [intOf]; omega
      | some ch =>
        rw [hco] at HCH hsn
        have HSN := Lib.hid hsn
        have HOK := Lib.hid (hok ch hco)
        clear hsn hok hIt hco
        go_upto_region 4 with (go_at_call 94; refine HCH.out.mono ?_; rintro e W2 ⟨hE2, vch, rfl, ⟨mp, mc, rfl, hma, hmb, hmt⟩⟩)
        obtain ⟨W3, hW3⟩ : ∃ W3, W3 = W2.alloc (.cells #[.int .u64 ch.needles, .slice mp ch.records.length mc] 105) := ⟨_, rfl⟩
        have hn3 := heap_new W2 (.cells #[.int .u64 ch.needles, .slice mp ch.records.length mc] 105)
        rw [← hW3] at hn3 ⊢
        have hE3 : Ext wr W3 := by rw [hW3]; exact Ext.alloc hE2 _
        have hma3 := hma.ext (show Ext W2 W3 by rw [hW3]; exact Ext.alloc (Ext.refl _) _)
        have hmt3 : ∀ a, mp = some a → ∃ cs, W3.heap[a.block]? = some (.cells cs 102 (0, 0)) := fun a ha => by
          obtain ⟨cs, hcs⟩ := hmt a ha
          exact ⟨cs, by rw [hW3]; exact heap_old _ hcs⟩
        have hln : (chTo X long n).length < 64 := by
          have h1 := List.length_filterMap_le (fun N => chooseW X N long) (List.range n)
          rw [List.length_range] at h1
          unfold chTo
          omega
        have e0 : W3.cell? ⟨W2.heap.size, 0, none⟩ = some (.int .u64 ch.needles) := (cell_of_heap hn3 0).trans rfl
        have e1 : W3.cell? ⟨W2.heap.size, 1, none⟩ = some (.slice mp ch.records.length mc) := (cell_of_heap hn3 1).trans rfl
        have hz3 : w.heap.size + 2 ≤ W3.heap.size := by have := hE3.size; omega
        obtain ⟨fn, tmps, ag, bd, hy, hR⟩ := HY.out (chTo X long n) ch (.agg #[.int .u64 ch.needles, .slice mp ch.records.length mc]) W3 HOK.out (HJ.out _ _ _ HJN.out (hE3.fr _) hz) ⟨⟨_, _, rfl, hma3, fun a ha => by have := hmb a ha; omega, hmt3⟩, hln⟩ hz3
        have hR' := Lib.hid hR
        have HF3 := Lib.hid (HF.out.trans (hE3.fr _))
        clear hW3 hn3 hE2 hE3 hma hma3 hR hmb hmt hmt3 hln
        refine (wpIn_wide (n := 0)).1 ?_
        gi_wp2
        refine ⟨rfl, hR'.out.mono ?_⟩
        rintro e W7 ⟨(⟨rfl, hj7⟩ | ⟨rfl, hj7⟩), hF7⟩
        · have HJ7 := Lib.hid hj7
          have HF7 := Lib.hid hF7
          clear hj7 hF7 hy
          gi_wp2
          go_wp2
          go_roundw
          case rel =>
            refine ⟨n + 1, by omega, by go_num, by rw [HSN.out]; exact HJ7.out, HF3.out.trans (HF7.out.mono fun i h => h.elim .inl (fun h => .inr (by omega))), by have := HF7.out.size; omega⟩
          case measure => simp [intOf]; omega
        · have HJ7 := Lib.hid hj7
          have HF7 := Lib.hid hF7
          clear hj7 hF7 hy
          gi_wp2
          go_wp2
          refine bodyPost_ret (results_none rfl _ _ _) rfl ?_
          refine ⟨⟨_, rfl⟩, .inr ⟨_, ?_, HJ7.out⟩, by have := HF7.out.size; omega⟩
          have h1 := chTo_prefix X long (n := n + 1) (m := M) (by omega)
          rw [HSN.out, HM.out] at h1
          exact h1
    · obtain rfl : n = M := by omega
      go_wp2
      go_end0
      refine ⟨⟨_, rfl⟩, .inl ⟨?_, trivial⟩, hz⟩
      have := HJN.out
      rw [HM.out] at this
      exact this
end Go.Proofs.Ytkcilgjkdiopnaa
namespace Go.Proofs.Ytkcilgjkdiopnaa
open Go.RowKit
attribute [local go_sem] Oper.semAt_some

/-- the best choice so far in block B, whether there is one in block B + 1 -/
def BestAt (M B : Nat) (o : Option Ch) (W : World) : Prop :=
  W.heap[B + 1]? = some (.cells #[.bool o.isSome] 4 (0, 0)) ∧ match o with
    | none => W.heap[B]? = some (.cells #[.int .u64 0, .slice none 0 0] 105 (0, 0))
    | some c => ∃ p cap, W.heap[B]? = some (.cells #[.int .u64 c.needles, .slice p c.records.length cap] 105 (0, 0)) ∧ MasksAt W p c.records ∧ ∀ a, p = some a → M ≤ a.block
theorem BestAt.fr {M B : Nat} {o : Option Ch} {w w' : World} {E : Nat → Prop} (h : BestAt M B o w) (hF : Fr E w w') (h0 : ¬E B) (h1 : ¬E (B + 1)) (hM : ∀ k, M ≤ k → ¬E k) : BestAt M B o w' := by
  obtain ⟨h2, h3⟩ := h
  refine ⟨(hF.block _ (Array.getElem?_eq_some_iff.1 h2).1 h1).trans h2, ?_⟩
  cases o with
  | none => exact (hF.block _ (Array.getElem?_eq_some_iff.1 h3).1 h0).trans h3
  | some c =>
    obtain ⟨p, cap, h4, h5, h6⟩ := h3
    exact ⟨p, cap, (hF.block _ (Array.getElem?_eq_some_iff.1 h4).1 h0).trans h4, h5.fr hF (fun a ha => hM _ (h6 a ha)), h6⟩

/-- a function value that says a number of a choice -/
def Says (g : Nat) (cap : Array Value) (w : World) (X : Wr) (f : Ch → Int) : Prop :=
  (∀ args w, (callFunc g args).run Try.prog w = .ok (.enter g args) w) ∧ ∀ w' v c, Ext w w' → ChV w' v c → ChOK X c → Calls Try.prog g (#[v] ++ cap) w' (RetE (.int .i64 (f c)) w')

theorem leastL_ok {X : Wr} {f : Ch → Int} : ∀ (l : List Ch), (∀ c ∈ l, ChOK X c) → ∀ b, leastL f l = some b → ChOK X b := by
  have key : ∀ (l : List Ch) (o : Option Ch), (∀ c ∈ l, ChOK X c) → (∀ b, o = some b → ChOK X b) → ∀ b, l.foldl (leastS f) o = some b → ChOK X b := by
    intro l
    induction l with
    | nil => intro o _ ho b hb; exact ho b hb
    | cons c r ih =>
      intro o hl ho b hb
      refine ih _ (fun c hc => hl c (by simp [hc])) ?_ b hb
      intro b' hb'
      cases o with
      | none => cases hb'; exact hl _ (by simp)
      | some y =>
        simp only [leastS] at hb'
        split at hb'
        · cases hb'; exact hl _ (by simp)
        · cases hb'; exact ho _ rfl
  exact fun l hl => key l none hl (fun b hb => by cases hb)

theorem heap4_3 (w : World) (o u t s : Obj) : ((((w.alloc o).alloc u).alloc t).alloc s).heap[w.heap.size + 3]? = some s := by
  have := heap_new (((w.alloc o).alloc u).alloc t) s
  simpa only [size_alloc] using this

set_option maxRecDepth 20000 in
set_option maxHeartbeats 6400000 in
theorem least03 (X : Wr) (hX : ValidW X) (p q : Option Addr) (c d long : Nat) (hl : (long : Int) ≤ X.weeks) (g : Nat) (cap : Array Value) (f : Ch → Int) (w : World) (hR : RecsAt w q X.recs) (hG : IntsAt w p X.rough) (hf : Says g cap w X f) :
    Calls Try.prog 70 #[.agg #[.int .i64 X.weeks, .int .i64 X.price, .int .i64 X.age, .int .i64 X.step, .slice p X.rough.length c, .slice q X.recs.length d], .int .i64 long, .func (.func g) #[] cap] w (ChPost (leastL f (choicesW X long)) w) := by
  obtain ⟨hcall, hf⟩ := hf
  have HFF := Lib.hid hf
  have HX := Lib.hid hX
  have HRA := Lib.hid hR
  have HGA := Lib.hid hG
  have hl6 : long ≤ 6 := by have := hX.weeks; omega
  clear hf hX hR hG
  refine calls_of_marks Try.func70 rfl ?_
  simp only [Try.ntmps70, List.size_toArray, List.length_cons, List.length_nil, Nat.reduceAdd, Nat.reduceSub, Array.replicate_succ, Array.replicate_zero, List.push_toArray, List.append_toArray, List.nil_append, List.cons_append]
  go_upto_region 1 with (fail)
  obtain ⟨W, hW⟩ : ∃ W, W = (((w.alloc (bxO X p c q d)).alloc (.cells #[.func (.func g) #[] cap] 122)).alloc (.cells #[.int .u64 0, .slice none 0 0] 105)).alloc (.cells #[.bool false] 4) := ⟨_, rfl⟩
  have g0 : W.heap[w.heap.size]? = some (bxO X p c q d) := by rw [hW]; exact heap_old _ (heap3_0 _ _ _ _)
  have g1 : W.heap[w.heap.size + 1]? = some (.cells #[.func (.func g) #[] cap] 122) := by rw [hW]; exact heap_old _ (heap3_1 _ _ _ _)
  have g2 : W.heap[w.heap.size + 2]? = some (.cells #[.int .u64 0, .slice none 0 0] 105 (0, 0)) := by rw [hW]; exact heap_old _ (heap3_2 _ _ _ _)
  have g3 : W.heap[w.heap.size + 3]? = some (.cells #[.bool false] 4 (0, 0)) := by rw [hW]; exact heap4_3 _ _ _ _ _
  have hE : Ext w W := by rw [hW]; exact Ext.alloc (Ext.alloc (Ext.alloc (Ext.alloc (Ext.refl w) _) _) _) _
  have hsW : W.heap.size = w.heap.size + 4 := by rw [hW]; simp only [size_alloc]
  unfold bxO at hW g0
  rw [← hW]
  have b0 : W.cell? ⟨w.heap.size, 0, none⟩ = some (.int .i64 X.weeks) := (cell_of_heap g0 0).trans rfl
  have b1 : W.cell? ⟨w.heap.size, 1, none⟩ = some (.int .i64 X.price) := (cell_of_heap g0 1).trans rfl
  have b2 : W.cell? ⟨w.heap.size, 2, none⟩ = some (.int .i64 X.age) := (cell_of_heap g0 2).trans rfl
  have b3 : W.cell? ⟨w.heap.size, 3, none⟩ = some (.int .i64 X.step) := (cell_of_heap g0 3).trans rfl
  have b4 : W.cell? ⟨w.heap.size, 4, none⟩ = some (.slice p X.rough.length c) := (cell_of_heap g0 4).trans rfl
  have b5 : W.cell? ⟨w.heap.size, 5, none⟩ = some (.slice q X.recs.length d) := (cell_of_heap g0 5).trans rfl
  have HCI := Lib.hid (choices03 X p q c d long W)
  have hwW : w.heap.size + 3 < W.heap.size := by omega
  have HG1 := Lib.hid g1
  have HG2 := Lib.hid g2
  have HG3 := Lib.hid g3
  have HE := Lib.hid hE
  clear hW g0 g1 g2 g3 hE hsW
  go_wp2_with (go_at_call 64; refine HCI.out.mono ?_; rintro e W6 ⟨rfl, i0, i1, hE6⟩)
  obtain ⟨B, hB⟩ : ∃ B, B = w.heap.size + 2 := ⟨_, rfl⟩
  have hz6 : W.heap.size + 2 ≤ W6.heap.size := by have := (Array.getElem?_eq_some_iff.1 i1).1; omega
  have hbest6 : BestAt (W6.heap.size + 2) B none W6 := by
    rw [hB]
    exact ⟨(Below.block hE6 _ (by omega)).trans HG3.out, (Below.block hE6 _ (by omega)).trans HG2.out⟩
  have hfn6 : W6.heap[w.heap.size + 1]? = some (.cells #[.func (.func g) #[] cap] 122) := (Below.block hE6 _ (by omega)).trans HG1.out
  have hEw6 := HE.out.trans hE6
  have HIT : Hid (CiAt X p q c d W.heap.size long w W6) := Lib.hid ⟨i0, i1, hEw6⟩
  have HE6 := Lib.hid hEw6
  have HI6 : Hid (Ext w W6 ∧ W6.heap[w.heap.size + 1]? = some (.cells #[.func (.func g) #[] cap] 122) ∧ BestAt (W6.heap.size + 2) B (leastL f []) W6 ∧ ∀ c ∈ ([] : List Ch), ChOK X c) := Lib.hid ⟨hEw6, hfn6, hbest6, fun c hc => absurd hc (by simp)⟩
  have hww : w.heap.size ≤ W6.heap.size := hEw6.size
  have hBw : w.heap.size + 1 < B := by omega
  have hB3 : B + 1 < W.heap.size := by omega
  rw [show w.heap.size + 1 + 1 = B from hB.symm]
  clear i0 i1 hE6 HCI b0 b1 b2 b3 b4 b5 hbest6 hfn6 hEw6 HG1 HG2 HG3 HE hB
  refine (wpIn_wide (n := 0)).1 ?_
  refine range_lawV (fst := #[]) (gf := 93) (cap := #[.pointer (some ⟨W.heap.size + 1, 0, none⟩), .pointer (some ⟨W.heap.size, 0, none⟩)]) rfl Try.call93
    (ChOK X) (choicesW X long) (fun k => k = B ∨ k = B + 1) (fun _ => False) ?hE (fun _ h => h.elim) (fun pre x v W => ChK (W6.heap.size + 2) W v x ∧ pre.length < 64) (fun _ => True)
    (fun pre W => Ext w W ∧ W.heap[w.heap.size + 1]? = some (.cells #[.func (.func g) #[] cap] 122) ∧ BestAt (W6.heap.size + 2) B (leastL f pre) W ∧ ∀ c ∈ pre, ChOK X c) (fun _ _ _ => False)
    ?hI (fun _ _ _ _ h _ _ => h) (fun _ _ h _ => h) HI6.out ?hiter ?hround ?hdone (fun _ _ _ _ h _ => h.elim)
  case hE => constructor <;> omega
  case hI =>
    rintro pre A C ⟨h1, h2, h3, h4⟩ hF hz
    exact ⟨Fr.ext h1 hF (fun i hi => by rcases hi with h | h | h; exact h.elim; omega; omega), (hF.block _ (by omega) (fun h => by rcases h with h | h | h; exact h; omega; omega)).trans h2,
      h3.fr hF (fun h => by rcases h with h | h | h; exact h; omega; omega) (fun h => by rcases h with h | h | h; exact h; omega; omega) (fun k hk h => by rcases h with h | h | h; exact h; omega; omega), h4⟩
  case hiter =>
    intro lp J Jx hJ hJx hno hY A hA hz hj
    refine callsIn_wide.2 ?_
    exact itch03 X HX.out p q c d W.heap.size long hl W6 (fun k => k = B ∨ k = B + 1) lp w HIT.out HRA.out HGA.out (fun k h => ⟨by omega, by omega, by omega⟩) J Jx hJ hJx hY A hA hz hj
  case hround =>
    rintro lp pre x v A hok hlp ⟨hA, hfn, hbest, hpre⟩ ⟨⟨mp, mc, rfl, hma, hmb, -⟩, -⟩ hz
    obtain ⟨H, hH⟩ : ∃ H, H = A.heap.size := ⟨_, rfl⟩
    have hn := heap_new A (.cells #[.int .u64 x.needles, .slice mp x.records.length mc] 105)
    gi_wp2
    refine ⟨Ext.alloc (Ext.refl A) _, fun W2 hW2 => ?_⟩
    have hF2 : Fr (fun k => k = lp) A W2 := ((Fr.refl (fun k => k = lp) A).alloc _).trans (hW2.fr rfl)
    have hH2 : W2.heap[H]? = some (.cells #[.int .u64 x.needles, .slice mp x.records.length mc] 105) := by rw [hH]; exact (hW2.block _ (by omega)).trans hn
    have hbest2 := hbest.fr hF2 (by omega) (by omega) (fun k hk => by omega)
    have hma2 := hma.fr hF2 (fun a ha => by have := hmb a ha; omega)
    have hfn2 := (hF2.block _ (by omega) (by omega)).trans hfn
    have hE2 : Ext w W2 := Fr.ext hA hF2 (fun i hi => by omega)
    have hsn := leastL_snoc f pre x
    have hprx : ∀ c ∈ pre ++ [x], ChOK X c := fun c hc => by
      rcases List.mem_append.1 hc with h | h
      · exact hpre c h
      · rw [List.mem_singleton.1 h]; exact hok
    have hbok := leastL_ok (f := f) pre hpre
    rw [← hH]
    have HB2 := Lib.hid hbest2
    have HF2 := Lib.hid hfn2
    have HE2 := Lib.hid hE2
    have HSN := Lib.hid hsn
    have HPX := Lib.hid hprx
    have HMA := Lib.hid hma2
    have HMB := Lib.hid hmb
    have HFX := Lib.hid (fun y : ExtW W2 => ExtW.call (HFF.out y.w (.agg #[.int .u64 x.needles, .slice mp x.records.length mc]) x (hE2.trans y.h) ⟨_, _, rfl, hma2.ext y.h⟩ hok))
    have u0 := ExtW.cell (v := .int .u64 x.needles) (cell_of_heap hH2 0)
    have u1 := ExtW.cell (v := .slice mp x.records.length mc) (cell_of_heap hH2 1)
    have ff := ExtW.cell (v := .func (.func g) #[] cap) (cell_of_heap hfn2 0)
    have hHl := (Array.getElem?_eq_some_iff.1 hH2).1
    have hHB : B + 1 < H := by omega
    clear hF2 hH2 hma2 hfn2 hE2 hsn hprx hn hH hfn hbest hpre hma hmb hW2 hA hbest2
    cases hlo : leastL f pre with
    | none =>
      rw [hlo] at HB2 HSN
      have t0 := ExtW.cell (v := .bool false) (cell_of_heap HB2.out.1 0)
      clear hbok hlo
      gi_wp2
      refine wpIn_region_round (w0 := W2) (x := ⟨W2, Ext.refl _⟩) (by kernel_rfl) (by kernel_rfl) (by kernel_rfl) ?_
      repeat (go_big_quiet_step (fail))
      refine wpQuiet_nil ?_
      rintro _ ⟨y1, rfl⟩
      have hB3 : BestAt (W6.heap.size + 2) B none y1.w := HB2.out.fr (y1.h.fr (fun _ => False)) (fun h => h) (fun h => h) (fun _ _ h => h)
      have s0 : y1.w.cell? ⟨B, 0, none⟩ = some (.int .u64 0) := (cell_of_heap hB3.2 0).trans rfl
      have s1 : y1.w.cell? ⟨B, 1, none⟩ = some (.slice none 0 0) := (cell_of_heap hB3.2 1).trans rfl
      have s2 : y1.w.cell? ⟨B + 1, 0, none⟩ = some (.bool false) := (cell_of_heap hB3.1 0).trans rfl
      have f0 := cell_frozen hB3.2 0
      have f1 := cell_frozen hB3.2 1
      have f2 := cell_frozen hB3.1 0
      have HB3 := Lib.hid hB3
      clear hB3 t0
      gi_wp2
      refine and_dep ((((y1.h.fr _).set (.inl rfl)).set (.inl rfl)).set (.inr rfl)) (fun hx => ⟨Fr.ext HE2.out hx (fun i hi => by omega), (hx.block _ (Array.getElem?_eq_some_iff.1 HF2.out).1 (by omega)).trans HF2.out, ?_, HPX.out⟩)
      rw [HSN.out]
      refine ⟨?_, mp, mc, heap_set_ne (by omega) (heap_set2 HB3.out.2), HMA.out.fr hx (fun a ha => by have := HMB.out a ha; omega), HMB.out⟩
      exact heap_set (heap_set_ne (by omega) (heap_set_ne (by omega) HB3.out.1)) rfl
    | some bc =>
      rw [hlo] at HB2 HSN
      have t0 := ExtW.cell (v := .bool true) (cell_of_heap HB2.out.1 0)
      have hbcok := hbok bc hlo
      clear hbok hlo
      obtain ⟨hb1, bp, bcap, hb2, hbm, hbb⟩ := HB2.out
      have w0 := ExtW.cell (v := .int .u64 bc.needles) (cell_of_heap hb2 0)
      have w1 := ExtW.cell (v := .slice bp bc.records.length bcap) (cell_of_heap hb2 1)
      have HFB := Lib.hid (fun y : ExtW W2 => ExtW.call (HFF.out y.w (.agg #[.int .u64 bc.needles, .slice bp bc.records.length bcap]) bc (HE2.out.trans y.h) ⟨_, _, rfl, hbm.ext y.h⟩ hbcok))
      have HBM := Lib.hid hbm
      have HBB := Lib.hid hbb
      have HB1 := Lib.hid hb1
      have HB2' := Lib.hid hb2
      clear hb1 hb2 hbm hbb HB2
      by_cases hlt : f x < f bc
      · have hlt' : decide (f x < f bc) = true := by simpa using hlt
        have HLT := Lib.hid hlt
        clear hlt
        gi_wp2
        refine wpIn_region_round (w0 := W2) (x := ⟨W2, Ext.refl _⟩) (by kernel_rfl) (by kernel_rfl) (by kernel_rfl) ?_
        repeat (go_big_quiet_step (with_reducible first | exact HFX.out _ | exact HFB.out _))
        refine wpQuiet_nil ?_
        rintro _ ⟨y1, rfl⟩
        have h1 := (Below.block y1.h _ (Array.getElem?_eq_some_iff.1 HB1.out).1).trans HB1.out
        have h2 := (Below.block y1.h _ (Array.getElem?_eq_some_iff.1 HB2'.out).1).trans HB2'.out
        have f0 := cell_frozen h2 0
        have f1 := cell_frozen h2 1
        have f2 := cell_frozen h1 0
        have s0 : y1.w.cell? ⟨B, 0, none⟩ = some (.int .u64 bc.needles) := (cell_of_heap h2 0).trans rfl
        have s1 : y1.w.cell? ⟨B, 1, none⟩ = some (.slice bp bc.records.length bcap) := (cell_of_heap h2 1).trans rfl
        have s2 : y1.w.cell? ⟨B + 1, 0, none⟩ = some (.bool true) := (cell_of_heap h1 0).trans rfl
        have H1 := Lib.hid h1
        have H2 := Lib.hid h2
        clear h1 h2 t0 w0 w1
        gi_wp2
        refine and_dep ((((y1.h.fr _).set (.inl rfl)).set (.inl rfl)).set (.inr rfl)) (fun hx => ⟨Fr.ext HE2.out hx (fun i hi => by omega), (hx.block _ (Array.getElem?_eq_some_iff.1 HF2.out).1 (by omega)).trans HF2.out, ?_, HPX.out⟩)
        rw [HSN.out]
        simp only [leastS, if_pos HLT.out]
        refine ⟨?_, mp, mc, heap_set_ne (by omega) (heap_set2 H2.out), HMA.out.fr hx (fun a ha => by have := HMB.out a ha; omega), HMB.out⟩
        exact heap_set (heap_set_ne (by omega) (heap_set_ne (by omega) H1.out)) rfl
      · have hlt' : decide (f x < f bc) = false := by simpa using hlt
        have HLT := Lib.hid hlt
        clear hlt
        gi_wp2
        refine wpIn_region_round (w0 := W2) (x := ⟨W2, Ext.refl _⟩) (by kernel_rfl) (by kernel_rfl) (by kernel_rfl) ?_
        repeat (go_big_quiet_step (with_reducible first | exact HFX.out _ | exact HFB.out _))
        refine wpQuiet_nil ?_
        rintro _ ⟨y1, rfl⟩
        gi_wp2
        refine ⟨y1.h.fr _, HE2.out.trans y1.h, (Below.block y1.h _ (Array.getElem?_eq_some_iff.1 HF2.out).1).trans HF2.out, ?_, HPX.out⟩
        rw [HSN.out]
        simp only [leastS, if_neg (show ¬f x < f bc by have := HLT.out; omega)]
        exact ⟨(Below.block y1.h _ (Array.getElem?_eq_some_iff.1 HB1.out).1).trans HB1.out, bp, bcap, (Below.block y1.h _ (Array.getElem?_eq_some_iff.1 HB2'.out).1).trans HB2'.out, HBM.out.ext y1.h, HBB.out⟩
  case hdone =>
    rintro A ⟨hA, hfn, hbest, hpre⟩ - hd
    have HA := Lib.hid hA
    have HD := Lib.hid hd
    have hsz := HE6.out.size
    clear hA hd hfn hpre
    cases hlo : leastL f (choicesW X long) with
    | none =>
      rw [hlo] at hbest
      have hb2 : A.heap[B]? = some (.cells #[.int .u64 0, .slice none 0 0] 105 (0, 0)) := hbest.2
      have hb1 : A.heap[B + 1]? = some (.cells #[.bool false] 4 (0, 0)) := hbest.1
      have HB2 := Lib.hid hb2
      have HB1 := Lib.hid hb1
      clear hb1 hb2
      have s0 : A.cell? ⟨B, 0, none⟩ = some (.int .u64 0) := (cell_of_heap hbest.2 0).trans rfl
      have s1 : A.cell? ⟨B, 1, none⟩ = some (.slice none 0 0) := (cell_of_heap hbest.2 1).trans rfl
      have s2 : A.cell? ⟨B + 1, 0, none⟩ = some (.bool false) := (cell_of_heap hbest.1 0).trans rfl
      have f0 := cell_frozen hbest.2 0
      have f1 := cell_frozen hbest.2 1
      have f2 := cell_frozen hbest.1 0
      have HLO := Lib.hid hlo
      clear hbest hlo
      go_wp2
      go_region
      all_goals go_wp2
      all_goals
        refine marks_ret (v := .tuple #[zeroCh, .bool false]) ?_ ?_ ?_
        · repeat (with_reducible (first | refine heap_drew ?_ | refine heap_set_ne (by omega) ?_ | exact HD.out))
        · intro W' hW'
          have k1 : W'.heap[B]? = some (.cells #[.int .u64 0, .slice none 0 0] 105) := by
            rw [hW'.block _ (by omega)]
            repeat (with_reducible (first | refine heap_drew ?_ | refine heap_set_ne (by omega) ?_ | apply heap_set | exact HB2.out))
            all_goals rfl
          have k2 : W'.heap[B + 1]? = some (.cells #[.bool false] 4) := by
            rw [hW'.block _ (by omega)]
            repeat (with_reducible (first | refine heap_drew ?_ | refine heap_set_ne (by omega) ?_ | apply heap_set | exact HB1.out))
            all_goals rfl
          have a0 := cell_of_heap k1 0
          have a1 := cell_of_heap k1 1
          have a2 := cell_of_heap k2 0
          simp at a0 a1 a2
          simp [results, Try.results70, go_sem, a0, a1, a2, zeroCh]
        · intro W' hW'
          refine ⟨?_, by rw [HLO.out]⟩
          refine Ext.trans' ?_ (hW'.below (by omega))
          repeat (with_reducible (first | refine Ext.drew ?_ | refine Ext.set ?_ (by omega) | exact HA.out))
    | some bc =>
      rw [hlo] at hbest
      obtain ⟨hb1, bp, bcap, hb2, hbm, hbb⟩ := hbest
      have HB1 := Lib.hid hb1
      have HB2 := Lib.hid hb2
      have HBM := Lib.hid hbm
      have HBB := Lib.hid hbb
      have s0 : A.cell? ⟨B, 0, none⟩ = some (.int .u64 bc.needles) := (cell_of_heap hb2 0).trans rfl
      have s1 : A.cell? ⟨B, 1, none⟩ = some (.slice bp bc.records.length bcap) := (cell_of_heap hb2 1).trans rfl
      have s2 : A.cell? ⟨B + 1, 0, none⟩ = some (.bool true) := (cell_of_heap hb1 0).trans rfl
      have f0 := cell_frozen hb2 0
      have f1 := cell_frozen hb2 1
      have f2 := cell_frozen hb1 0
      have HLO := Lib.hid hlo
      clear hb1 hb2 hbm hbb hlo
      go_wp2
      go_region
      all_goals go_wp2
      all_goals
        refine marks_ret (v := .tuple #[.agg #[.int .u64 bc.needles, .slice bp bc.records.length bcap], .bool true]) ?_ ?_ ?_
        · repeat (with_reducible (first | refine heap_drew ?_ | refine heap_set_ne (by omega) ?_ | exact HD.out))
        · intro W' hW'
          have k1 : W'.heap[B]? = some (.cells #[.int .u64 bc.needles, .slice bp bc.records.length bcap] 105) := by
            rw [hW'.block _ (by omega)]
            repeat (with_reducible (first | refine heap_drew ?_ | refine heap_set_ne (by omega) ?_ | apply heap_set | exact HB2.out))
            all_goals rfl
          have k2 : W'.heap[B + 1]? = some (.cells #[.bool true] 4) := by
            rw [hW'.block _ (by omega)]
            repeat (with_reducible (first | refine heap_drew ?_ | refine heap_set_ne (by omega) ?_ | apply heap_set | exact HB1.out))
            all_goals rfl
          have a0 := cell_of_heap k1 0
          have a1 := cell_of_heap k1 1
          have a2 := cell_of_heap k2 0
          simp at a0 a1 a2
          simp [results, Try.results70, go_sem, a0, a1, a2]
        · intro W' hW'
          have hFr : Fr (fun k => k = B ∨ k = B + 1 ∨ k = W6.heap.size) A W' := by
            refine Fr.trans ?_ (hW'.fr (.inr (.inr rfl)))
            repeat (with_reducible (first | exact Fr.refl _ _ | refine Fr.drew ?_ | refine Fr.set ?_ (.inl rfl) | refine Fr.set ?_ (.inr (.inl rfl))))
          refine ⟨?_, by rw [HLO.out]; exact ⟨_, rfl, bp, bcap, rfl, HBM.out.fr hFr (fun a ha => by have := HBB.out a ha; omega), fun a ha => by have := HBB.out a ha; omega⟩⟩
          exact Fr.ext HA.out hFr (fun i hi => by omega)
end Go.Proofs.Ytkcilgjkdiopnaa
namespace Go.Proofs.Ytkcilgjkdiopnaa
open Go.RowKit

/-- a function of a box and a choice that says a number of the choice -/
def Says2 (h : Nat) (X : Wr) (f : Ch → Int) : Prop :=
  (∀ args w, (callFunc h args).run Try.prog w = .ok (.enter h args) w) ∧ ∀ w v u c, WrV w v X → ChV w u c → ChOK X c → Calls Try.prog h #[v, u] w (RetE (.int .i64 (f c)) w)

set_option maxHeartbeats 1600000 in
theorem seekFn03 (X : Wr) (p q : Option Addr) (cp d h F B : Nat) (f : Ch → Int) (hs : Says2 h X f) (u : Value) (c : Ch) (w : World) (hu : ChV w u c) (hc : ChOK X c) (hR : RecsAt w q X.recs) (hG : IntsAt w p X.rough)
    (hF : w.heap[F]? = some (.cells #[.func (.func h) #[] #[]] 108)) (hB : w.heap[B]? = some (bxO X p cp q d)) :
    Calls Try.prog 91 #[u, .pointer (some ⟨F, 0, none⟩), .pointer (some ⟨B, 0, none⟩)] w (RetE (.int .i64 (f c)) w) := by
  obtain ⟨hcall, hs⟩ := hs
  obtain ⟨s, cs, rfl, hma⟩ := hu
  unfold bxO at hB
  go_enter Try.func91, Try.ntmps91
  go_upto_region 1 with (fail)
  have hn := heap_new w (.cells #[.int .u64 c.needles, .slice s c.records.length cs] 105)
  obtain ⟨W, hW⟩ : ∃ W, W = w.alloc (.cells #[.int .u64 c.needles, .slice s c.records.length cs] 105) := ⟨_, rfl⟩
  have hE : Ext w W := by rw [hW]; exact Ext.alloc (Ext.refl w) _
  rw [← hW] at hn ⊢
  have c0 : W.cell? ⟨w.heap.size, 0, none⟩ = some (.int .u64 c.needles) := (cell_of_heap hn 0).trans rfl
  have c1 : W.cell? ⟨w.heap.size, 1, none⟩ = some (.slice s c.records.length cs) := (cell_of_heap hn 1).trans rfl
  have hFw := (Below.block hE F (Array.getElem?_eq_some_iff.1 hF).1).trans hF
  have hBw := (Below.block hE B (Array.getElem?_eq_some_iff.1 hB).1).trans hB
  have f0 : W.cell? ⟨F, 0, none⟩ = some (.func (.func h) #[] #[]) := (cell_of_heap hFw 0).trans rfl
  have b0 : W.cell? ⟨B, 0, none⟩ = some (.int .i64 X.weeks) := (cell_of_heap hBw 0).trans rfl
  have b1 : W.cell? ⟨B, 1, none⟩ = some (.int .i64 X.price) := (cell_of_heap hBw 1).trans rfl
  have b2 : W.cell? ⟨B, 2, none⟩ = some (.int .i64 X.age) := (cell_of_heap hBw 2).trans rfl
  have b3 : W.cell? ⟨B, 3, none⟩ = some (.int .i64 X.step) := (cell_of_heap hBw 3).trans rfl
  have b4 : W.cell? ⟨B, 4, none⟩ = some (.slice p X.rough.length cp) := (cell_of_heap hBw 4).trans rfl
  have b5 : W.cell? ⟨B, 5, none⟩ = some (.slice q X.recs.length d) := (cell_of_heap hBw 5).trans rfl
  have HS := Lib.hid (hs W (.agg #[.int .i64 X.weeks, .int .i64 X.price, .int .i64 X.age, .int .i64 X.step, .slice p X.rough.length cp, .slice q X.recs.length d]) (.agg #[.int .u64 c.needles, .slice s c.records.length cs]) c ⟨_, _, _, _, rfl, hG.ext hE, hR.ext hE⟩ ⟨_, _, rfl, hma.ext hE⟩ hc)
  have HE := Lib.hid hE
  clear hW hn hE hFw hBw hs hF hB hma
  go_wp2_with fail
  refine HS.out.mono ?_
  rintro e W2 ⟨rfl, hE2⟩
  go_wp2
  go_ret
  exact RetE.fin (HE.out.trans hE2) rfl

/-- what seek returns of a valid box -/
def SeekPost (v : Value) (o : Option Ch) (w : World) (e : Ending) (w' : World) : Prop :=
  Ext w w' ∧ match o with
    | some c => ∃ u, e = .returned (.tuple #[v, u, .int .i64 0]) ∧ ChN w.heap.size w' u c
    | none => e = .returned (.tuple #[v, zeroCh, .int .i64 3])

theorem ChPost.mono {o : Option Ch} {w w0 : World} {e : Ending} {w' : World} (h : ChPost o w e w') (hE : Ext w0 w) : ChPost o w0 e w' := by
  refine ⟨hE.trans h.1, ?_⟩
  have h2 := h.2
  cases o with
  | none => exact h2
  | some c =>
    obtain ⟨v, hv, p, cap, h3, h4, h5⟩ := h2
    exact ⟨v, hv, p, cap, h3, h4, fun a ha => Nat.le_trans hE.size (h5 a ha)⟩

set_option maxRecDepth 20000 in
set_option maxHeartbeats 3200000 in
theorem seek03 (X : Wr) (hX : ValidW X) (p q : Option Addr) (cp d h : Nat) (f : Ch → Int) (hs : Says2 h X f) (w : World) (hM : ModestW X) (hR : RecsAt w q X.recs) (hG : IntsAt w p X.rough) :
    Calls Try.prog 61 #[.agg #[.int .i64 X.weeks, .int .i64 X.price, .int .i64 X.age, .int .i64 X.step, .slice p X.rough.length cp, .slice q X.recs.length d], .func (.func h) #[] #[]] w
      (SeekPost (.agg #[.int .i64 X.weeks, .int .i64 X.price, .int .i64 X.age, .int .i64 X.step, .slice p X.rough.length cp, .slice q X.recs.length d]) (leastL f (choicesW X X.weeks.toNat)) w) := by
  have hC := fun w' (h : Ext w w') => Check03 (.agg #[.int .i64 X.weeks, .int .i64 X.price, .int .i64 X.age, .int .i64 X.step, .slice p X.rough.length cp, .slice q X.recs.length d]) X w' ⟨_, _, _, _, rfl, hG.ext h, hR.ext h⟩ hM
  rw [chkW_t hX] at hC
  have HC := Lib.hid hC
  have HX := Lib.hid hX
  have HS := Lib.hid hs
  have HR := Lib.hid hR
  have HG := Lib.hid hG
  obtain ⟨long, hlo⟩ : ∃ long : Nat, X.weeks = long := ⟨X.weeks.toNat, by have := hX.weeks; omega⟩
  have HLO := Lib.hid hlo
  clear hC hX hs hR hG hM hlo
  go_enter Try.func61, Try.ntmps61
  go_upto_region 1 with (fail)
  obtain ⟨W, hW⟩ : ∃ W, W = (((w.alloc (.cells #[.int .i64 X.weeks, .int .i64 X.price, .int .i64 X.age, .int .i64 X.step, .slice p X.rough.length cp, .slice q X.recs.length d] 25)).alloc (.cells #[.func (.func h) #[] #[]] 108)).alloc (.cells #[.int .i64 0, .int .i64 0, .int .i64 0, .int .i64 0, .slice none 0 0, .slice none 0 0] 88)).alloc (.cells #[.int .u64 0, .slice none 0 0] 105) := ⟨_, rfl⟩
  have g0 : W.heap[w.heap.size]? = some (.cells #[.int .i64 X.weeks, .int .i64 X.price, .int .i64 X.age, .int .i64 X.step, .slice p X.rough.length cp, .slice q X.recs.length d] 25) := by rw [hW]; exact heap_old _ (heap3_0 _ _ _ _)
  have g1 : W.heap[w.heap.size + 1]? = some (.cells #[.func (.func h) #[] #[]] 108) := by rw [hW]; exact heap_old _ (heap3_1 _ _ _ _)
  have g2 : W.heap[w.heap.size + 2]? = some (.cells #[.int .i64 0, .int .i64 0, .int .i64 0, .int .i64 0, .slice none 0 0, .slice none 0 0] 88 (0, 0)) := by rw [hW]; exact heap_old _ (heap3_2 _ _ _ _)
  have g3 : W.heap[w.heap.size + 3]? = some (.cells #[.int .u64 0, .slice none 0 0] 105 (0, 0)) := by rw [hW]; exact heap4_3 _ _ _ _ _
  have hE : Ext w W := by rw [hW]; exact Ext.alloc (Ext.alloc (Ext.alloc (Ext.alloc (Ext.refl w) _) _) _) _
  have hsW : W.heap.size = w.heap.size + 4 := by rw [hW]; simp only [size_alloc]
  rw [← hW]
  have q0 := ExtW.cell (v := .int .i64 X.weeks) (cell_of_heap g0 0)
  have q1 := ExtW.cell (v := .int .i64 X.price) (cell_of_heap g0 1)
  have q2 := ExtW.cell (v := .int .i64 X.age) (cell_of_heap g0 2)
  have q3 := ExtW.cell (v := .int .i64 X.step) (cell_of_heap g0 3)
  have q4 := ExtW.cell (v := .slice p X.rough.length cp) (cell_of_heap g0 4)
  have q5 := ExtW.cell (v := .slice q X.recs.length d) (cell_of_heap g0 5)
  have HC2 := Lib.hid (fun x : ExtW W => ExtW.call (HC.out x.w (hE.trans x.h)))
  have HG1 := Lib.hid g1
  have HG2 := Lib.hid g2
  have HG3 := Lib.hid g3
  have HE := Lib.hid hE
  obtain ⟨x0, hx0⟩ := ExtW.of (Ext.refl W)
  clear hW g0 g1 g2 g3 hE HC
  conv => arg 5; rw [hx0]
  clear hx0
  obtain ⟨B, hB⟩ : ∃ B, B = w.heap.size + 2 := ⟨_, rfl⟩
  have hBW : B + 1 < W.heap.size := by omega
  have hwB : w.heap.size + 1 < B := by omega
  have HBB := Lib.hid hB
  clear hsW hB
  rw [show w.heap.size + 1 + 1 = B from HBB.out.symm]
  go_upto_region 5 with (go_at_call 19; refine (HC2.out _).mono ?_; rintro e w' ⟨rfl, x1, rfl⟩)
  obtain ⟨W5, hW5⟩ : ∃ W5, W5 = x1.w.alloc (bxO X p cp q d) := ⟨_, rfl⟩
  have hn5 := heap_new x1.w (bxO X p cp q d)
  obtain ⟨b8, hb8⟩ : ∃ b8, b8 = x1.w.heap.size := ⟨_, rfl⟩
  rw [← hW5, ← hb8] at hn5
  have hE5 : Ext W W5 := by rw [hW5]; exact Ext.alloc x1.h _
  have hEw5 := HE.out.trans hE5
  have hb8l : W.heap.size ≤ b8 := by rw [hb8]; exact x1.h.size
  have hb8u : b8 < W5.heap.size := (Array.getElem?_eq_some_iff.1 hn5).1
  unfold bxO at hW5
  rw [← hW5, ← hb8]
  have hsays : ∀ y : ExtW W5, Says 91 #[.pointer (some ⟨w.heap.size + 1, 0, none⟩), .pointer (some ⟨b8, 0, none⟩)] y.w X f := fun y => ⟨Try.call91, fun w' v c hw' hu hc => by
    have := seekFn03 X p q cp d h (w.heap.size + 1) b8 f HS.out v c w' hu hc (HR.out.ext ((hEw5.trans y.h).trans hw')) (HG.out.ext ((hEw5.trans y.h).trans hw')) ((Below.block ((hE5.trans y.h).trans hw') _ (by omega)).trans HG1.out) ((Below.block (y.h.trans hw') _ hb8u).trans hn5)
    simpa using this⟩
  have hle := fun y : ExtW W5 => (least03 X HX.out p q cp d long (by rw [HLO.out]; exact Int.le_refl _) 91 #[.pointer (some ⟨w.heap.size + 1, 0, none⟩), .pointer (some ⟨b8, 0, none⟩)] f y.w (HR.out.ext (hEw5.trans y.h)) (HG.out.ext (hEw5.trans y.h)) (hsays y)).mono (R' := ChPost (leastL f (choicesW X long)) W5) (fun _ _ h => h.mono y.h)
  rw [show ((long : Nat) : Int) = X.weeks from HLO.out.symm] at hle
  have HLE := Lib.hid hle
  have r0 := ExtW.cell (hE5.cell (q0 ⟨W, Ext.refl W⟩))
  have d0 := ExtW.cell (v := .int .i64 X.weeks) (cell_of_heap hn5 0)
  have d1 := ExtW.cell (v := .int .i64 X.price) (cell_of_heap hn5 1)
  have d2 := ExtW.cell (v := .int .i64 X.age) (cell_of_heap hn5 2)
  have d3 := ExtW.cell (v := .int .i64 X.step) (cell_of_heap hn5 3)
  have d4 := ExtW.cell (v := .slice p X.rough.length cp) (cell_of_heap hn5 4)
  have d5 := ExtW.cell (v := .slice q X.recs.length d) (cell_of_heap hn5 5)
  have z2 : Hid (∀ x : ExtW W5, x.w.heap[B]? = some (.cells #[.int .i64 0, .int .i64 0, .int .i64 0, .int .i64 0, .slice none 0 0, .slice none 0 0] 88 (0, 0))) := Lib.hid fun x => (Below.block (hE5.trans x.h) _ (by omega)).trans (HBB.out ▸ HG2.out)
  have z3 : Hid (∀ x : ExtW W5, x.w.heap[B + 1]? = some (.cells #[.int .u64 0, .slice none 0 0] 105 (0, 0))) := Lib.hid fun x => (Below.block (hE5.trans x.h) _ (by omega)).trans (by have := HBB.out; rw [this]; exact HG3.out)
  have HE5 := Lib.hid hEw5
  have hsz5 := hE5.size
  obtain ⟨y0, hy0⟩ := ExtW.of (Ext.refl W5)
  have hch : choicesW X X.weeks.toNat = choicesW X long := by rw [HLO.out]; rfl
  have HCH := Lib.hid hch
  clear hW5 hn5 hE5 hEw5 hsays hle q0 q1 q2 q3 q4 q5 HG2 HG3 HG1 HE hb8 hch
  conv => arg 5; rw [hy0]
  clear hy0
  cases hlo : leastL f (choicesW X long) with
  | none =>
    rw [hlo] at HLE
    have HLO2 := Lib.hid hlo
    clear hlo
    go_upto_region 6 with (go_at_call 70; refine (HLE.out _).mono ?_; rintro e W6 ⟨hE6, rfl⟩; unfold zeroCh)
    obtain ⟨x7, hx7⟩ := ExtW.of (Ext.alloc hE6 (.cells #[.int .u64 0, .slice none 0 0] 105))
    have k2 := z2.out x7
    have k3 := z3.out x7
    conv => arg 5; rw [hx7]
    clear hx7
    have f0 := fun k => cell_frozen k2 k
    have f1 := fun k => cell_frozen k3 k
    have c20 : x7.w.cell? ⟨B, 0, none⟩ = some (.int .i64 0) := (cell_of_heap k2 0).trans rfl
    have c21 : x7.w.cell? ⟨B, 1, none⟩ = some (.int .i64 0) := (cell_of_heap k2 1).trans rfl
    have c22 : x7.w.cell? ⟨B, 2, none⟩ = some (.int .i64 0) := (cell_of_heap k2 2).trans rfl
    have c23 : x7.w.cell? ⟨B, 3, none⟩ = some (.int .i64 0) := (cell_of_heap k2 3).trans rfl
    have c24 : x7.w.cell? ⟨B, 4, none⟩ = some (.slice none 0 0) := (cell_of_heap k2 4).trans rfl
    have c25 : x7.w.cell? ⟨B, 5, none⟩ = some (.slice none 0 0) := (cell_of_heap k2 5).trans rfl
    have c30 : x7.w.cell? ⟨B + 1, 0, none⟩ = some (.int .u64 0) := (cell_of_heap k3 0).trans rfl
    have c31 : x7.w.cell? ⟨B + 1, 1, none⟩ = some (.slice none 0 0) := (cell_of_heap k3 1).trans rfl
    have K2 := Lib.hid k2
    have K3 := Lib.hid k3
    have HE7 := Lib.hid (HE5.out.trans x7.h)
    clear k2 k3
    go_wp2
    generalize hWz : World.setCell _ _ _ = Wz
    have hz2 : Wz.heap[B]? = some (.cells #[.int .i64 X.weeks, .int .i64 X.price, .int .i64 X.age, .int .i64 X.step, .slice p X.rough.length cp, .slice q X.recs.length d] 88 (0, 0)) := by
      rw [← hWz]; exact heap_set_ne (by omega) (heap_set_ne (by omega) (heap_set6 K2.out))
    have hz3 : Wz.heap[B + 1]? = some (.cells #[.int .u64 0, .slice none 0 0] 105 (0, 0)) := by
      rw [← hWz]
      refine heap_set2 (a0 := .int .u64 0) (a1 := .slice none 0 0) ?_
      repeat (with_reducible (first | refine heap_set_ne (by omega) ?_ | exact K3.out))
    have hEz : Ext w Wz := by
      rw [← hWz]
      repeat (with_reducible (first | refine Ext.set ?_ (by omega) | exact HE7.out))
    refine bodyPost_ret (v := .tuple #[.agg #[.int .i64 X.weeks, .int .i64 X.price, .int .i64 X.age, .int .i64 X.step, .slice p X.rough.length cp, .slice q X.recs.length d], zeroCh, .int .i64 3]) ?_ rfl ⟨hEz, by rw [HCH.out, HLO2.out]⟩
    have a0 := cell_of_heap hz2 0
    have a1 := cell_of_heap hz2 1
    have a2 := cell_of_heap hz2 2
    have a3 := cell_of_heap hz2 3
    have a4 := cell_of_heap hz2 4
    have a5 := cell_of_heap hz2 5
    have a6 := cell_of_heap hz3 0
    have a7 := cell_of_heap hz3 1
    simp at a0 a1 a2 a3 a4 a5 a6 a7
    simp [results, Try.results61, go_sem, a0, a1, a2, a3, a4, a5, a6, a7, zeroCh]
  | some c =>
    rw [hlo] at HLE
    have HLO2 := Lib.hid hlo
    clear hlo
    go_upto_region 6 with (go_at_call 70; refine (HLE.out _).mono ?_; rintro e W6 ⟨hE6, u, rfl, ⟨mp, mc, rfl, hma, hmb⟩⟩)
    have hn7 := heap_new W6 (.cells #[.int .u64 c.needles, .slice mp c.records.length mc] 105)
    have hma7 := hma.ext (Ext.alloc (Ext.refl W6) (.cells #[.int .u64 c.needles, .slice mp c.records.length mc] 105))
    obtain ⟨x7, hx7⟩ := ExtW.of (Ext.alloc hE6 (.cells #[.int .u64 c.needles, .slice mp c.records.length mc] 105))
    rw [hx7] at hn7 hma7
    have k2 := z2.out x7
    have k3 := z3.out x7
    conv => arg 5; rw [hx7]
    clear hx7
    obtain ⟨b9, hb9⟩ : ∃ b9, b9 = W6.heap.size := ⟨_, rfl⟩
    rw [← hb9] at hn7 ⊢
    have hb9l : B + 1 < b9 := by have := hE6.size; omega
    have e0 : x7.w.cell? ⟨b9, 0, none⟩ = some (.int .u64 c.needles) := (cell_of_heap hn7 0).trans rfl
    have e1 : x7.w.cell? ⟨b9, 1, none⟩ = some (.slice mp c.records.length mc) := (cell_of_heap hn7 1).trans rfl
    have f0 := fun k => cell_frozen k2 k
    have f1 := fun k => cell_frozen k3 k
    have c20 : x7.w.cell? ⟨B, 0, none⟩ = some (.int .i64 0) := (cell_of_heap k2 0).trans rfl
    have c21 : x7.w.cell? ⟨B, 1, none⟩ = some (.int .i64 0) := (cell_of_heap k2 1).trans rfl
    have c22 : x7.w.cell? ⟨B, 2, none⟩ = some (.int .i64 0) := (cell_of_heap k2 2).trans rfl
    have c23 : x7.w.cell? ⟨B, 3, none⟩ = some (.int .i64 0) := (cell_of_heap k2 3).trans rfl
    have c24 : x7.w.cell? ⟨B, 4, none⟩ = some (.slice none 0 0) := (cell_of_heap k2 4).trans rfl
    have c25 : x7.w.cell? ⟨B, 5, none⟩ = some (.slice none 0 0) := (cell_of_heap k2 5).trans rfl
    have c30 : x7.w.cell? ⟨B + 1, 0, none⟩ = some (.int .u64 0) := (cell_of_heap k3 0).trans rfl
    have c31 : x7.w.cell? ⟨B + 1, 1, none⟩ = some (.slice none 0 0) := (cell_of_heap k3 1).trans rfl
    have K2 := Lib.hid k2
    have K3 := Lib.hid k3
    have HE7 := Lib.hid (HE5.out.trans x7.h)
    have HMA := Lib.hid hma7
    have hmb' : ∀ a, mp = some a → B + 1 < a.block ∧ w.heap.size ≤ a.block := fun a ha => by have := hmb a ha; omega
    have HMB := Lib.hid hmb'
    clear k2 k3 hn7 hma hma7 hmb hmb' hb9 hE6
    clear r0
    go_wp2
    go_region
    all_goals go_wp2
    all_goals
      generalize hWz : World.drew _ = Wz
      have hz2 : Wz.heap[B]? = some (.cells #[.int .i64 X.weeks, .int .i64 X.price, .int .i64 X.age, .int .i64 X.step, .slice p X.rough.length cp, .slice q X.recs.length d] 88 (0, 0)) := by
        rw [← hWz]; exact heap_drew (heap_set_ne (by omega) (heap_set_ne (by omega) (heap_set6 K2.out)))
      have hz3 : Wz.heap[B + 1]? = some (.cells #[.int .u64 c.needles, .slice mp c.records.length mc] 105 (0, 0)) := by
        rw [← hWz]
        refine heap_drew (heap_set2 (a0 := .int .u64 0) (a1 := .slice none 0 0) ?_)
        repeat (with_reducible (first | refine heap_set_ne (by omega) ?_ | exact K3.out))
      have hFz : Fr (fun k => k = B ∨ k = B + 1) x7.w Wz := by
        rw [← hWz]
        refine Fr.drew ?_
        repeat (with_reducible (first | exact Fr.refl _ _ | refine Fr.set ?_ (.inl rfl) | refine Fr.set ?_ (.inr rfl)))
      refine bodyPost_ret (v := .tuple #[.agg #[.int .i64 X.weeks, .int .i64 X.price, .int .i64 X.age, .int .i64 X.step, .slice p X.rough.length cp, .slice q X.recs.length d], .agg #[.int .u64 c.needles, .slice mp c.records.length mc], .int .i64 0]) ?_ rfl ⟨Fr.ext HE7.out hFz (fun i hi => by omega), by
        rw [HCH.out, HLO2.out]
        exact ⟨_, rfl, mp, mc, rfl, HMA.out.fr hFz (fun a ha => by have := HMB.out a ha; omega), fun a ha => (HMB.out a ha).2⟩⟩
      have a0 := cell_of_heap hz2 0
      have a1 := cell_of_heap hz2 1
      have a2 := cell_of_heap hz2 2
      have a3 := cell_of_heap hz2 3
      have a4 := cell_of_heap hz2 4
      have a5 := cell_of_heap hz2 5
      have a6 := cell_of_heap hz3 0
      have a7 := cell_of_heap hz3 1
      simp at a0 a1 a2 a3 a4 a5 a6 a7
      simp [results, Try.results61, go_sem, a0, a1, a2, a3, a4, a5, a6, a7]
end Go.Proofs.Ytkcilgjkdiopnaa
namespace Go.Proofs.Ytkcilgjkdiopnaa
open Go.RowKit

/-- the least cost, as a choice -/
def bestW (X : Wr) : Option Ch := leastL (fun c => allW X c X.price) (choicesW X X.weeks.toNat)
def cheapV (X : Wr) : Value := match bestW X with
  | some c => .tuple #[.int .i64 (allW X c X.price), .int .i64 0]
  | none => .tuple #[.int .i64 0, .int .i64 3]

theorem says_whole (X : Wr) (hX : ValidW X) : Says2 62 X (fun c => allW X c X.price) :=
  ⟨Try.call62, fun w v u c hv hu hc => whole03 v u X c w hv hX hu hc⟩
theorem bestW_ok {X : Wr} (hX : ValidW X) {c : Ch} (h : bestW X = some c) : ChOK X c :=
  leastL_ok _ (fun c hc => choices_ok hX (by have := hX.weeks; omega) hc) c h

set_option maxRecDepth 20000 in
set_option maxHeartbeats 3200000 in
theorem Cheapest03 (v : Value) (X : Wr) (w : World) (hv : WrV w v X) (hX : ValidW X) (hM : ModestW X) : Calls Try.prog 36 #[v] w (RetE (cheapV X) w) := by
  obtain ⟨p, cp, q, d, rfl, hG, hR⟩ := hv
  have hse := fun w' (h : Ext w w') => seek03 X hX p q cp d 62 _ (says_whole X hX) w' hM (hR.ext h) (hG.ext h)
  have HSE := Lib.hid hse
  have HX := Lib.hid hX
  have HR := Lib.hid hR
  have HG := Lib.hid hG
  clear hse hX hR hG hM
  go_enter Try.func36, Try.ntmps36
  go_upto_region 1 with (fail)
  obtain ⟨W, hW⟩ : ∃ W, W = w.alloc (.cells #[.int .i64 X.weeks, .int .i64 X.price, .int .i64 X.age, .int .i64 X.step, .slice p X.rough.length cp, .slice q X.recs.length d] 25) := ⟨_, rfl⟩
  have hn := heap_new w (.cells #[.int .i64 X.weeks, .int .i64 X.price, .int .i64 X.age, .int .i64 X.step, .slice p X.rough.length cp, .slice q X.recs.length d] 25)
  have hE : Ext w W := by rw [hW]; exact Ext.alloc (Ext.refl w) _
  rw [← hW] at hn ⊢
  have q0 := cell_of_heap hn 0
  have q1 := cell_of_heap hn 1
  have q2 := cell_of_heap hn 2
  have q3 := cell_of_heap hn 3
  have q4 := cell_of_heap hn 4
  have q5 := cell_of_heap hn 5
  simp at q0 q1 q2 q3 q4 q5
  have HS := Lib.hid (HSE.out W hE)
  have HE := Lib.hid hE
  clear hW hn hE HSE
  cases hb : bestW X with
  | none =>
    have hb' := hb
    unfold bestW at hb'
    rw [hb'] at HS
    have HB := Lib.hid hb
    clear hb hb'
    go_wp2_with (go_at_call 61; refine HS.out.mono ?_; rintro e W2 ⟨hE2, rfl⟩; unfold zeroCh)
    go_ret2
    refine RetE.fin ?_ (by unfold cheapV; rw [HB.out]; rfl)
    have := HE.out.trans hE2
    repeat (with_reducible (first | refine Ext.drew ?_ | refine Ext.alloc ?_ _ | exact this))
  | some c =>
    have hok := bestW_ok HX.out hb
    have hb' := hb
    unfold bestW at hb'
    rw [hb'] at HS
    have HB := Lib.hid hb
    clear hb hb'
    go_upto_region 2 with (go_at_call 61; refine HS.out.mono ?_; rintro e W2 ⟨hE2, u, rfl, ⟨mp, mc, rfl, hma, -⟩⟩)
    obtain ⟨W3, hW3⟩ : ∃ W3, W3 = (W2.alloc (bxO X p cp q d)).alloc (.cells #[.int .u64 c.needles, .slice mp c.records.length mc] 105) := ⟨_, rfl⟩
    have g0 := heap_new1 W2 (bxO X p cp q d) (.cells #[.int .u64 c.needles, .slice mp c.records.length mc] 105)
    have g1 := heap_new2 W2 (bxO X p cp q d) (.cells #[.int .u64 c.needles, .slice mp c.records.length mc] 105)
    rw [← hW3] at g0 g1
    have hE3 : Ext W2 W3 := by rw [hW3]; exact Ext.alloc (Ext.alloc (Ext.refl _) _) _
    unfold bxO at hW3
    rw [← hW3]
    have b0 : W3.cell? ⟨W2.heap.size, 0, none⟩ = some (.int .i64 X.weeks) := (cell_of_heap g0 0).trans rfl
    have b1 : W3.cell? ⟨W2.heap.size, 1, none⟩ = some (.int .i64 X.price) := (cell_of_heap g0 1).trans rfl
    have b2 : W3.cell? ⟨W2.heap.size, 2, none⟩ = some (.int .i64 X.age) := (cell_of_heap g0 2).trans rfl
    have b3 : W3.cell? ⟨W2.heap.size, 3, none⟩ = some (.int .i64 X.step) := (cell_of_heap g0 3).trans rfl
    have b4 : W3.cell? ⟨W2.heap.size, 4, none⟩ = some (.slice p X.rough.length cp) := (cell_of_heap g0 4).trans rfl
    have b5 : W3.cell? ⟨W2.heap.size, 5, none⟩ = some (.slice q X.recs.length d) := (cell_of_heap g0 5).trans rfl
    have e0 : W3.cell? ⟨W2.heap.size + 1, 0, none⟩ = some (.int .u64 c.needles) := (cell_of_heap g1 0).trans rfl
    have e1 : W3.cell? ⟨W2.heap.size + 1, 1, none⟩ = some (.slice mp c.records.length mc) := (cell_of_heap g1 1).trans rfl
    have hEw := (HE.out.trans hE2).trans hE3
    have HWH := Lib.hid (whole03 (.agg #[.int .i64 X.weeks, .int .i64 X.price, .int .i64 X.age, .int .i64 X.step, .slice p X.rough.length cp, .slice q X.recs.length d]) (.agg #[.int .u64 c.needles, .slice mp c.records.length mc]) X c W3 ⟨_, _, _, _, rfl, HG.out.ext hEw, HR.out.ext hEw⟩ HX.out ⟨_, _, rfl, hma.ext hE3⟩ hok)
    have HEW := Lib.hid hEw
    clear hW3 g0 g1 hE3 hEw hE2 hma hok
    go_wp2_with (go_at_call 62; refine HWH.out.mono ?_; rintro e w' ⟨rfl, hE4⟩)
    go_ret2
    exact RetE.fin (HEW.out.trans hE4) (by unfold cheapV; rw [HB.out]; rfl)

/-- the best choice of the first weeks -/
def bestTo (X : Wr) (long : Nat) : Option Ch := leastL (fun c => allW X c X.price) (choicesW X long)
def enoughB (X : Wr) (budget : Int) (long : Nat) : Bool := match bestTo X long with
  | some c => decide (allW X c X.price ≤ budget)
  | none => false
/-- the greatest number of weeks up to n for which a budget is enough -/
def lastTo (X : Wr) (budget : Int) : Nat → Nat
  | 0 => 0
  | n + 1 => if enoughB X budget (n + 1) = true then n + 1 else lastTo X budget n
def lastV (X : Wr) (budget : Int) : Value :=
  if 0 ≤ budget ∧ budget ≤ 99999 then .tuple #[.int .i64 (lastTo X budget X.weeks.toNat), .int .i64 0] else .tuple #[.int .i64 0, .int .i64 1]

set_option maxHeartbeats 1600000 in
theorem lastFn03 (X : Wr) (hX : ValidW X) (p q : Option Addr) (cp d B : Nat) (u : Value) (c : Ch) (w : World) (hu : ChV w u c) (hc : ChOK X c) (hR : RecsAt w q X.recs) (hG : IntsAt w p X.rough)
    (hB : w.heap[B]? = some (bxO X p cp q d)) :
    Calls Try.prog 71 #[u, .pointer (some ⟨B, 0, none⟩)] w (RetE (.int .i64 (allW X c X.price)) w) := by
  obtain ⟨s, cs, rfl, hma⟩ := hu
  unfold bxO at hB
  go_enter Try.func71, Try.ntmps71
  go_upto_region 1 with (fail)
  have hn := heap_new w (.cells #[.int .u64 c.needles, .slice s c.records.length cs] 105)
  obtain ⟨W, hW⟩ : ∃ W, W = w.alloc (.cells #[.int .u64 c.needles, .slice s c.records.length cs] 105) := ⟨_, rfl⟩
  have hE : Ext w W := by rw [hW]; exact Ext.alloc (Ext.refl w) _
  rw [← hW] at hn ⊢
  have c0 : W.cell? ⟨w.heap.size, 0, none⟩ = some (.int .u64 c.needles) := (cell_of_heap hn 0).trans rfl
  have c1 : W.cell? ⟨w.heap.size, 1, none⟩ = some (.slice s c.records.length cs) := (cell_of_heap hn 1).trans rfl
  have hBw := (Below.block hE B (Array.getElem?_eq_some_iff.1 hB).1).trans hB
  have b0 : W.cell? ⟨B, 0, none⟩ = some (.int .i64 X.weeks) := (cell_of_heap hBw 0).trans rfl
  have b1 : W.cell? ⟨B, 1, none⟩ = some (.int .i64 X.price) := (cell_of_heap hBw 1).trans rfl
  have b2 : W.cell? ⟨B, 2, none⟩ = some (.int .i64 X.age) := (cell_of_heap hBw 2).trans rfl
  have b3 : W.cell? ⟨B, 3, none⟩ = some (.int .i64 X.step) := (cell_of_heap hBw 3).trans rfl
  have b4 : W.cell? ⟨B, 4, none⟩ = some (.slice p X.rough.length cp) := (cell_of_heap hBw 4).trans rfl
  have b5 : W.cell? ⟨B, 5, none⟩ = some (.slice q X.recs.length d) := (cell_of_heap hBw 5).trans rfl
  have HS := Lib.hid (whole03 (.agg #[.int .i64 X.weeks, .int .i64 X.price, .int .i64 X.age, .int .i64 X.step, .slice p X.rough.length cp, .slice q X.recs.length d]) (.agg #[.int .u64 c.needles, .slice s c.records.length cs]) X c W ⟨_, _, _, _, rfl, hG.ext hE, hR.ext hE⟩ hX ⟨_, _, rfl, hma.ext hE⟩ hc)
  have HE := Lib.hid hE
  clear hW hn hE hBw hB hma hX
  go_wp2_with (go_at_call 62; refine HS.out.mono ?_; rintro e W2 ⟨rfl, hE2⟩)
  go_ret
  exact RetE.fin (HE.out.trans hE2) rfl
end Go.Proofs.Ytkcilgjkdiopnaa
namespace Go.Proofs.Ytkcilgjkdiopnaa
open Go.RowKit

theorem lastTo_skip (X : Wr) (budget : Int) {n : Nat} : ∀ N, n ≤ N → (∀ m, n < m → m ≤ N → enoughB X budget m = false) → lastTo X budget N = lastTo X budget n := by
  intro N
  induction N with
  | zero => intro h _; obtain rfl : n = 0 := by omega
            rfl
  | succ N ih =>
    intro h hm
    by_cases e : n = N + 1
    · rw [e]
    · rw [lastTo, if_neg (by rw [hm (N + 1) (by omega) (Nat.le_refl _)]; simp)]
      exact ih (by omega) (fun m h1 h2 => hm m h1 (by omega))

set_option maxRecDepth 20000 in
set_option maxHeartbeats 3200000 in
theorem Last03 (v : Value) (X : Wr) (budget : Int) (w : World) (hv : WrV w v X) (hX : ValidW X) (hM : ModestW X) : Calls Try.prog 30 #[v, .int .i64 budget] w (RetE (lastV X budget) w) := by
  have hC := fun w' (h : Ext w w') => Check03 v X w' (WrV.mono _ _ _ _ h hv) hM
  rw [chkW_t hX] at hC
  obtain ⟨p, cp, q, d, rfl, hG, hR⟩ := hv
  have HC := Lib.hid hC
  have HX := Lib.hid hX
  have HR := Lib.hid hR
  have HG := Lib.hid hG
  obtain ⟨wk, hwk⟩ : ∃ wk : Nat, X.weeks = wk := ⟨X.weeks.toNat, by have := hX.weeks; omega⟩
  have hwk6 : wk ≤ 6 := by have := hX.weeks; omega
  have HWK := Lib.hid hwk
  clear hC hX hR hG hM hwk
  go_enter Try.func30, Try.ntmps30
  go_upto_region 1 with (fail)
  obtain ⟨W, hW⟩ : ∃ W, W = w.alloc (.cells #[.int .i64 X.weeks, .int .i64 X.price, .int .i64 X.age, .int .i64 X.step, .slice p X.rough.length cp, .slice q X.recs.length d] 25) := ⟨_, rfl⟩
  have hn := heap_new w (.cells #[.int .i64 X.weeks, .int .i64 X.price, .int .i64 X.age, .int .i64 X.step, .slice p X.rough.length cp, .slice q X.recs.length d] 25)
  have hE : Ext w W := by rw [hW]; exact Ext.alloc (Ext.refl w) _
  rw [← hW] at hn ⊢
  have q0 := ExtW.cell (v := .int .i64 X.weeks) (cell_of_heap hn 0)
  have q1 := ExtW.cell (v := .int .i64 X.price) (cell_of_heap hn 1)
  have q2 := ExtW.cell (v := .int .i64 X.age) (cell_of_heap hn 2)
  have q3 := ExtW.cell (v := .int .i64 X.step) (cell_of_heap hn 3)
  have q4 := ExtW.cell (v := .slice p X.rough.length cp) (cell_of_heap hn 4)
  have q5 := ExtW.cell (v := .slice q X.recs.length d) (cell_of_heap hn 5)
  have HC2 := Lib.hid (fun x : ExtW W => ExtW.call (HC.out x.w (hE.trans x.h)))
  have HE := Lib.hid hE
  obtain ⟨x0, hx0⟩ := ExtW.of (Ext.refl W)
  clear hW hn hE HC
  conv => arg 5; rw [hx0]
  clear hx0
  by_cases hb : 0 ≤ budget ∧ budget ≤ 99999
  case neg =>
    have HB := Lib.hid hb
    have HWC := Lib.hid (wOut (W := W) hb)
    clear hb
    go_wp2_with (first | (go_at_call 19; refine (HC2.out _).mono ?_; rintro e w' ⟨rfl, x1, rfl⟩) | (go_at_call 54; refine (HWC.out _).mono ?_; rintro e w' ⟨rfl, x2, rfl⟩))
    go_ret2
    exact RetE.fin (HE.out.trans x2.h) (by unfold lastV; rw [if_neg HB.out]; rfl)
  have HB := Lib.hid hb
  have HWC := Lib.hid (wIn (W := W) hb)
  clear hb
  go_upto_region 7 with (first | (go_at_call 19; refine (HC2.out _).mono ?_; rintro e w' ⟨rfl, x1, rfl⟩) | (go_at_call 54; refine (HWC.out _).mono ?_; rintro e w' ⟨rfl, x2, rfl⟩))
  obtain ⟨W7, hW7⟩ : ∃ W7, W7 = x2.w.alloc (bxO X p cp q d) := ⟨_, rfl⟩
  have hn7 := heap_new x2.w (bxO X p cp q d)
  obtain ⟨b7, hb7⟩ : ∃ b7, b7 = x2.w.heap.size := ⟨_, rfl⟩
  rw [← hW7, ← hb7] at hn7
  have hE7 : Ext W W7 := by rw [hW7]; exact Ext.alloc x2.h _
  have hEw7 := HE.out.trans hE7
  have hb7u : b7 < W7.heap.size := (Array.getElem?_eq_some_iff.1 hn7).1
  unfold bxO at hW7
  rw [← hW7, ← hb7]
  have r0 := ExtW.cell (hE7.cell (q0 ⟨W, Ext.refl W⟩))
  have d0 := ExtW.cell (v := .int .i64 X.weeks) (cell_of_heap hn7 0)
  have d1 := ExtW.cell (v := .int .i64 X.price) (cell_of_heap hn7 1)
  have d2 := ExtW.cell (v := .int .i64 X.age) (cell_of_heap hn7 2)
  have d3 := ExtW.cell (v := .int .i64 X.step) (cell_of_heap hn7 3)
  have d4 := ExtW.cell (v := .slice p X.rough.length cp) (cell_of_heap hn7 4)
  have d5 := ExtW.cell (v := .slice q X.recs.length d) (cell_of_heap hn7 5)
  have HN7 := Lib.hid hn7
  have HE7 := Lib.hid hEw7
  obtain ⟨y0, hy0⟩ := ExtW.of (Ext.refl W7)
  clear hW7 hn7 hE7 hEw7 q0 q1 q2 q3 q4 q5 hb7 HE
  conv => arg 5; rw [hy0]
  clear hy0
  have hwk := HWK.out
  rw [hwk] at r0
  clear hwk
  go_wp2
  go_loopw [8] (fun i wr => ∃ n : Nat, n ≤ wk ∧ i = .int .i64 n ∧ (∀ m, n < m → m ≤ wk → enoughB X budget m = false) ∧ ∃ x : ExtW W7, wr = x.w) (fun i _ => (intOf i).toNat)
  case atStart => exact ⟨wk, Nat.le_refl _, rfl, fun m h1 h2 => absurd h1 (by omega), y0, rfl⟩
  case round =>
    clear y0
    obtain ⟨n, hn, rfl, hno, x, rfl⟩ := hrel
    have HNO := Lib.hid hno
    clear hno
    by_cases hpos : 0 < n
    · have hpos' : decide ((0 : Int) < n) = true := by simp; omega
      have hsays : ∀ y : ExtW W7, Says 71 #[.pointer (some ⟨b7, 0, none⟩)] y.w X (fun c => allW X c X.price) := fun y => ⟨Try.call71, fun w' v c hw' hu hc => by
        have := lastFn03 X HX.out p q cp d b7 v c w' hu hc (HR.out.ext ((HE7.out.trans y.h).trans hw')) (HG.out.ext ((HE7.out.trans y.h).trans hw')) ((Below.block (y.h.trans hw') _ hb7u).trans HN7.out)
        simpa using this⟩
      have HLE := Lib.hid (fun y : ExtW W7 => least03 X HX.out p q cp d n (by have := HWK.out; omega) 71 #[.pointer (some ⟨b7, 0, none⟩)] _ y.w (HR.out.ext (HE7.out.trans y.h)) (HG.out.ext (HE7.out.trans y.h)) (hsays y))
      have hbt : bestTo X n = leastL (fun c => allW X c X.price) (choicesW X n) := rfl
      have hbok : ∀ c, bestTo X n = some c → ChOK X c := fun c hc => leastL_ok _ (fun c hc => choices_ok HX.out (by omega) hc) c hc
      rw [← hbt] at HLE
      clear hsays hbt
      cases hbw : bestTo X n with
      | none =>
        rw [hbw] at HLE
        have HEN : Hid (enoughB X budget n = false) := Lib.hid (by unfold enoughB; rw [hbw])
        clear hbw hbok
        go_wp2_with (go_at_call 70; refine (HLE.out _).mono ?_; rintro e W8 ⟨hE8, rfl⟩; unfold zeroCh)
        go_roundw
        case rel =>
          refine ⟨n - 1, by omega, by rw [show ((n - 1 : Nat) : Int) = (n : Int) - 1 by omega], fun m h1 h2 => ?_, ⟨⟨_, Ext.alloc (x.h.trans hE8) _⟩, rfl⟩⟩
          by_cases e : n = m
          · rw [← e]; exact HEN.out
          · exact HNO.out m (by omega) h2
        case measure => simp [intOf]; omega
      | some c =>
        rw [hbw] at HLE
        have hok := hbok c hbw
        have hen : enoughB X budget n = decide (allW X c X.price ≤ budget) := by unfold enoughB; rw [hbw]
        have HEN := Lib.hid hen
        clear hbw hbok hen
        go_upto_region 11 with (go_at_call 70; refine (HLE.out _).mono ?_; rintro e W8 ⟨hE8, u, rfl, ⟨mp, mc, rfl, hma, -⟩⟩)
        have hn9 := heap_new W8 (.cells #[.int .u64 c.needles, .slice mp c.records.length mc] 105)
        have hma9 := hma.ext (Ext.alloc (Ext.refl W8) (.cells #[.int .u64 c.needles, .slice mp c.records.length mc] 105))
        obtain ⟨x9, hx9⟩ := ExtW.of (Ext.alloc (x.h.trans hE8) (.cells #[.int .u64 c.needles, .slice mp c.records.length mc] 105))
        rw [hx9] at hn9 hma9
        conv => arg 5; rw [hx9]
        clear hx9
        have e0 : x9.w.cell? ⟨W8.heap.size, 0, none⟩ = some (.int .u64 c.needles) := (cell_of_heap hn9 0).trans rfl
        have e1 : x9.w.cell? ⟨W8.heap.size, 1, none⟩ = some (.slice mp c.records.length mc) := (cell_of_heap hn9 1).trans rfl
        have HWH := Lib.hid (ExtW.call (whole03 (.agg #[.int .i64 X.weeks, .int .i64 X.price, .int .i64 X.age, .int .i64 X.step, .slice p X.rough.length cp, .slice q X.recs.length d]) (.agg #[.int .u64 c.needles, .slice mp c.records.length mc]) X c x9.w ⟨_, _, _, _, rfl, HG.out.ext (HE7.out.trans x9.h), HR.out.ext (HE7.out.trans x9.h)⟩ HX.out ⟨_, _, rfl, hma9⟩ hok))
        obtain ⟨aw, haw⟩ : ∃ aw, aw = allW X c X.price := ⟨_, rfl⟩
        rw [← haw] at HWH HEN
        clear haw hn9 hma hma9 hE8 hok
        by_cases hle : aw ≤ budget
        · have hle' : decide (aw ≤ budget) = true := by simpa using hle
          have HLB := Lib.hid hle
          clear hle
          go_wp2_with (go_at_call 62; refine HWH.out.mono ?_; rintro e w' ⟨rfl, x10, rfl⟩)
          go_ret2
          refine RetE.fin (HE7.out.trans x10.h) ?_
          have h1 := lastTo_skip X budget wk hn HNO.out
          have h2 : lastTo X budget n = n := by
            obtain ⟨m, rfl⟩ : ∃ m, n = m + 1 := ⟨n - 1, by omega⟩
            rw [lastTo, if_pos (by rw [HEN.out]; simpa using HLB.out)]
          unfold lastV
          rw [if_pos HB.out, HWK.out, Int.toNat_natCast, h1, h2]
          rfl
        · have hle' : decide (aw ≤ budget) = false := by simpa using hle
          have HLB := Lib.hid hle
          clear hle
          go_wp2_with (go_at_call 62; refine HWH.out.mono ?_; rintro e w' ⟨rfl, x10, rfl⟩)
          go_roundw
          case rel =>
            refine ⟨n - 1, by omega, by rw [show ((n - 1 : Nat) : Int) = (n : Int) - 1 by omega], fun m h1 h2 => ?_, x10, rfl⟩
            by_cases e : n = m
            · rw [← e, HEN.out]; simpa using HLB.out
            · exact HNO.out m (by omega) h2
          case measure => simp [intOf]; omega
    · obtain rfl : n = 0 := by omega
      go_wp2
      go_ret2
      refine RetE.fin (HE7.out.trans x.h) ?_
      have h1 := lastTo_skip X budget wk hn HNO.out
      unfold lastV
      rw [if_pos HB.out, HWK.out, Int.toNat_natCast, h1]
      rfl
end Go.Proofs.Ytkcilgjkdiopnaa
