
/- A drawn region by facts, one of whose operations writes what others read ahead of it. No program in sight. The walk of spread, of a set. Two sets are compared; the walk of spread, of paths. The walk of spread, of paths. The walks of mod, and of what a reading shows, ahead and before. The walk of read, of paths: readings are held against eight sets. The walks of ahead and before. The walk of before. -/
import Derived.Test.YtppncdbhebgcaaaGreatDoorVA
import Derived.StillTail
import Derived.RegionTactic
import Derived.Test.YtppncdbhebgcaaaGreatDoorXB
import Derived.Test.YtppncdbhebgcaaaGreatDoorXC
import Derived.Test.YtppncdbhebgcaaaGreatDoorRows
namespace Go.Proofs.YtppncdbhebgcaaaGreatDoor
open Go.RowKit

section
variable {P : Program} {ops : Array Oper} {Q : Exit → Act → World → Prop} {md : Region.Mode}
structure HInv2 (md : Region.Mode) (ops : Array Oper) (n k : Nat) (R0 R : World → World → Prop) (F : Nat → Value → Nat → Nat → World → Prop) (a0 : Act) (w0 : World) (l : List Oper) (listed : Array Bool) (a : Act) (w : World) : Prop where
  inv : HeadInv md ops n listed
  rel : R w0 w
  strong : listed.getD k false = false → R0 w0 w
  fr : ∃ (ys : Nat → Value) (lo hi : Nat → Nat), a = fill ys 0 l a0 ∧ (∀ j, listed.getD j false = true → F j (ys j) (lo j) (hi j) w ∧ w0.heap.size ≤ lo j ∧ lo j ≤ hi j ∧ hi j ≤ w.heap.size) ∧
    ∀ i j, listed.getD i false = true → listed.getD j false = true → i ≠ j → hi i ≤ lo j ∨ hi j ≤ lo i

/-- what is owed of operation i -/
def OpF2 (P : Program) (Q : Exit → Act → World → Prop) (k : Nat) (C : List Nat) (R0 R : World → World → Prop) (F : Nat → Value → Nat → Nat → World → Prop) (D : List (List Nat)) (l : List Oper) (n : Nat) (a0 : Act) (w0 : World) (i : Nat) : Prop :=
  ∀ (ys : Nat → Value) (lo hi : Nat → Nat) (w' : World), R w0 w' → (i = k ∨ C.contains i = true → R0 w0 w') → Facts F ys lo hi w' (D.getD i []) →
    wpOp P l.toArray Q i (fun a' w'' => ∃ v, a' = (fill ys 0 (l.take n) a0).put ((l[i]?).bind (·.dst)) v ∧ F i v w'.heap.size w''.heap.size w'' ∧ (i = k → R w' w'') ∧ (i ≠ k → R0 w' w'')) (fill ys 0 (l.take n) a0) w'
theorem wpAny_facts2 {n k : Nat} {C : List Nat} {R0 R : World → World → Prop} {F : Nat → Value → Nat → Nat → World → Prop} {D : List (List Nat)} {a0 : Act} {w0 : World} {l : List Oper}
    (hn : n ≤ l.length) (hd : dstB (l.take n) = true) (hup : upB md l.toArray = true) (ht : tailB md l.toArray n = true) (hD : ∀ i, i < n → ∀ j ∈ D.getD i [], j ∈ deps md l.toArray i)
    (hk : k < n) (hC : ∀ i, C.contains i = true → i ∈ deps md l.toArray k) (h0R : ∀ a b, R0 a b → R a b) (hT0 : ∀ a b c, R0 a b → R0 b c → R0 a c) (hT : ∀ a b c, R a b → R b c → R a c) (hS : ∀ a b, R a b → a.heap.size ≤ b.heap.size) (hF : ∀ j v s t w w', R0 w w' → F j v s t w → F j v s t w') (hFk : ∀ j v s t w w', j ≠ k → R w w' → F j v s t w → F j v s t w')
    (hops : ∀ i, i < n → OpF2 P Q k C R0 R F D l n a0 w0 i) 
    (g : Nat) (hdone : ∀ ys lo hi w', R w0 w' → (∀ j, j < n → F j (ys j) (lo j) (hi j) w') → Spans n lo hi w0.heap.size w'.heap.size → wpAny P md l.toArray Q g (firstB l.length n) (fill ys 0 (l.take n) a0) w') :
    ∀ (f : Nat) (listed : Array Bool) (a : Act) (w : World), ((List.range n).filter fun i => !listed.getD i true).length = f → HInv2 md l.toArray n k R0 R F a0 w0 (l.take n) listed a w →
      wpAny P md l.toArray Q (f + g) listed a w
  | 0, listed, a, w, hf, H => by
    obtain ⟨inv, hr, -, ys, lo, hi, rfl, hy, hap⟩ := H
    have hall : ∀ i, i < n → listed.getD i true = true := fun i hi => by
      cases hc : listed.getD i true with
      | true => rfl
      | false => have := count_lt (p := fun i => !listed.getD i true) ⟨i, hi, by simp [hc]⟩; omega
    have hsz : l.toArray.size = l.length := by simp
    have hll : listed = firstB l.length n := by
      apply Array.ext
      · simp [firstB, inv.size]
      · intro i h1 h2
        simp only [firstB, Array.getElem_map, Array.getElem_range]
        by_cases e : i < n
        · have := hall i e
          simp [h1] at this
          simp [e, this]
        · have := inv.tail i (by omega) (by rw [← inv.size]; exact h1)
          simp [h1] at this
          simp [e, this]
    have hb : ∀ j, j < n → listed.getD j false = true := fun j hj => by
      have := hall j hj
      have h2 : j < listed.size := by rw [inv.size]; omega
      simp [h2] at this ⊢
      exact this
    rw [Nat.zero_add, hll]
    exact hdone ys lo hi w hr (fun j hj => (hy j (hb j hj)).1) ⟨fun j hj => (hy j (hb j hj)).2, fun i j h1 h2 => hap i j (hb i h1) (hb j h2)⟩
  | f + 1, listed, a, w, hf, H => by
    obtain ⟨inv, hr, hst, ys, lo, hi', rfl, hy, hap⟩ := H
    have hsz : l.toArray.size = l.length := by simp
    rw [show f + 1 + g = (f + g) + 1 by omega]
    have hex : ∃ i, i < n ∧ listed.getD i true = false := by
      have : 0 < ((List.range n).filter fun i => !listed.getD i true).length := by omega
      obtain ⟨i, hi⟩ := List.exists_mem_of_length_pos this
      rw [List.mem_filter, List.mem_range] at hi
      exact ⟨i, hi.1, by simpa using hi.2⟩
    refine ⟨fun h0 => ?_, fun i hi => ?_⟩
    · exfalso
      obtain ⟨i, hin, hiu⟩ := hex
      have hno : ∀ m i, i ≤ m → i < n → listed.getD i true = false → False := by
        intro m
        induction m with
        | zero =>
          intro i him hin hiu
          obtain rfl : i = 0 := by omega
          have hlt : 0 < l.toArray.size := by omega
          obtain ⟨o, ho⟩ : ∃ o, l.toArray[0]? = some o := ⟨_, Array.getElem?_eq_getElem hlt⟩
          have hu := List.all_eq_true.1 hup 0 (List.mem_range.2 hlt)
          have : (0 : Nat) ∈ Region.ready md l.toArray listed := mem_ready.2 ⟨hiu, o, ho, fun e he hb => by
            rw [ho] at hu
            have := Array.all_eq_true'.1 hu e he
            simp [hb] at this⟩
          rw [h0] at this; cases this
        | succ m ih =>
          intro i him hin hiu
          have hlt : i < l.toArray.size := by omega
          obtain ⟨o, ho⟩ : ∃ o, l.toArray[i]? = some o := ⟨_, Array.getElem?_eq_getElem hlt⟩
          have hu := List.all_eq_true.1 hup i (List.mem_range.2 hlt)
          have : i ∈ Region.ready md l.toArray listed := mem_ready.2 ⟨hiu, o, ho, fun e he hb => by
            rw [ho] at hu
            have h1 := Array.all_eq_true'.1 hu e he
            simp [hb] at h1
            cases hc : listed.getD e.on false with
            | true => rfl
            | false => exact (ih e.on (by omega) (by omega) (getD_in (by rw [inv.size]; omega) hc)).elim⟩
          rw [h0] at this; cases this
      exact hno i i (Nat.le_refl _) hin hiu
    · have hin : i < n := by
        rcases Nat.lt_or_ge i n with h | h
        · exact h
        · exfalso
          obtain ⟨hiu, oi, hoi, _⟩ := mem_ready.1 hi
          have hisz := (Array.getElem?_eq_some_iff.1 hoi).1
          simp only [tailB, Bool.or_eq_true, decide_eq_true_eq, Bool.and_eq_true] at ht
          rcases ht with ht | ⟨⟨ht1, ht2⟩, ht3⟩
          · omega
          · obtain ⟨k, hk1, hk2⟩ := hex
            exact absurd hi (tail_waits ht2 ht3 ht1 inv _ k rfl hk1 hk2 i h)
      obtain ⟨hiu, oi, hoi, hall⟩ := mem_ready.1 hi
      have hd1 := depsB_ok (md := md) hoi hall inv.closed i [] (fun k hk => by cases hk)
      have hfac : Facts F ys lo hi' w (D.getD i []) := Facts.of (fun j hj => (hy j (hd1 j (hD i hin j hj))).1)
      have hstr : i = k ∨ C.contains i = true → R0 w0 w := fun hc' => by
        refine hst ?_
        rcases hc' with hc' | hc
        · subst hc'
          have h2 : i < listed.size := by rw [inv.size]; omega
          simp [h2] at hiu ⊢
          exact hiu
        cases hl : listed.getD k false with
        | false => rfl
        | true =>
          exfalso
          have hksz : k < l.toArray.size := by omega
          obtain ⟨ok, hok⟩ : ∃ o, l.toArray[k]? = some o := ⟨_, Array.getElem?_eq_getElem hksz⟩
          have hd2 := depsB_ok (md := md) hok (inv.closed k ok hok hl) inv.closed k [] (fun k hk => by cases hk)
          have h1 := hd2 i (hC i hc)
          have h2 : i < listed.size := by rw [inv.size]; omega
          simp [h2] at h1 hiu
          rw [h1] at hiu; cases hiu
      refine wpOp_mono ?_ (hops i hin ys lo hi' w hr hstr hfac)
      rintro a' w' ⟨v, rfl, hv, hrk, hrn⟩
      have hrw : R w w' := by
        by_cases e : i = k
        · exact hrk e
        · exact h0R _ _ (hrn e)
      have hli : l[i]? = some oi := by simpa using hoi
      have hlt : (l.take n)[i]? = some oi := by rw [List.getElem?_take_of_lt hin]; exact hli
      have hs1 := hS _ _ hr
      have hs2 := hS _ _ hrw
      refine wpAny_facts2 hn hd hup ht hD hk hC h0R hT0 hT hS hF hFk hops g hdone f _ _ _ ?_ ⟨inv.set hi hin, hT _ _ _ hr hrw, (fun hl => by
        by_cases e : i = k
        · exfalso
          subst e
          have h1 := getD_set_true' listed i
          have h2 : i < listed.size := by rw [inv.size]; omega
          simp [h2] at hl
        · rw [getD_set_ne false e] at hl
          exact hT0 _ _ _ (hst hl) (hrn e)), upd ys i v, updI' lo i w.heap.size, updI' hi' i w'.heap.size, ?_, fun j hj => ?_, fun j k hj hk hjk => ?_⟩
      · have := count_set (n := n) hin (by rw [inv.size]; omega) hiu
        omega
      · rw [hli]
        have := fill_upd (ys := ys) v (l.take n) 0 a0 i oi hd hlt
        rw [Nat.zero_add] at this
        exact this
      · unfold upd updI'
        by_cases e : j = i
        · subst e; rw [if_pos rfl, if_pos rfl, if_pos rfl]; exact ⟨hv, hs1, hs2, Nat.le_refl _⟩
        · rw [if_neg e, if_neg e, if_neg e]
          rw [getD_set_ne false (Ne.symm e)] at hj
          obtain ⟨k1, k2, k3, k4⟩ := hy j hj
          refine ⟨?_, k2, k3, Nat.le_trans k4 hs2⟩
          by_cases ek : i = k
          · exact hFk _ _ _ _ _ _ (fun e' => e (e'.trans ek.symm)) hrw k1
          · exact hF _ _ _ _ _ _ (hrn ek) k1
      · unfold updI'
        by_cases e : j = i
        · subst e
          have e2 : ¬k = j := fun e2 => hjk e2.symm
          rw [if_pos rfl, if_pos rfl, if_neg e2, if_neg e2]
          rw [getD_set_ne false (Ne.symm e2)] at hk
          exact Or.inr (hy k hk).2.2.2
        · rw [if_neg e, if_neg e]
          rw [getD_set_ne false (Ne.symm e)] at hj
          by_cases e2 : k = i
          · subst e2
            rw [if_pos rfl, if_pos rfl]
            exact Or.inl (hy j hj).2.2.2
          · rw [if_neg e2, if_neg e2]
            rw [getD_set_ne false (Ne.symm e2)] at hk
            exact hap j k hj hk hjk

theorem wp_region_facts2 {id : Nat} {Q : Exit → Act → World → Prop} {a : Act} {w : World} {l : List Oper} (n : Nat) (D : List (List Nat)) (J : List Nat) (k : Nat) (C : List Nat) (R0 R : World → World → Prop) (F : Nat → Value → Nat → Nat → World → Prop) (hm : P.follows .mixedOrders = true)
    (hB : factsB .any l n D J = true) (hC : (decide (k < n) && C.all (fun i => (deps .any l.toArray k).contains i)) = true) (h0R : ∀ a b, R0 a b → R a b) (hT0 : ∀ a b c, R0 a b → R0 b c → R0 a c) (hR0 : ∀ w, R0 w w) (hR : ∀ w, R w w) (hT : ∀ a b c, R a b → R b c → R a c) (hS : ∀ a b, R a b → a.heap.size ≤ b.heap.size) (hF : ∀ j v s t w w', R0 w w' → F j v s t w → F j v s t w') (hFk : ∀ j v s t w w', j ≠ k → R w w' → F j v s t w → F j v s t w')
    (hops : AllOps (OpF2 P Q k C R0 R F D l n a w.drew) 0 n)
    (hdone : ∀ ys lo hi w', R w.drew w' → Facts F ys lo hi w' J → Spans n lo hi w.heap.size w'.heap.size → wpList P l.toArray Q (l.drop n) (fill ys 0 (l.take n) a) w') : (Code.region id l.toArray true).wp P Q a w := by
  simp only [factsB, Bool.and_eq_true, decide_eq_true_eq] at hB
  obtain ⟨⟨⟨⟨⟨⟨h1, h2⟩, h3⟩, h4⟩, h5⟩, h6⟩, h7⟩ := hB
  refine wp_region_any hm ?_
  have hsz : l.toArray.size = l.length := by simp
  simp only [Bool.and_eq_true, decide_eq_true_eq] at hC
  have key := wpAny_facts2 (P := P) (Q := Q) (md := .any) (n := n) (k := k) (C := C) (R0 := R0) (R := R) (F := F) (D := D) (a0 := a) (w0 := w.drew) (l := l) h1 h2 h3 h4
    (fun i hi j hj => by have := List.all_eq_true.1 (List.all_eq_true.1 h6 i (List.mem_range.2 hi)) j hj; simpa using this) hC.1 (fun i hi => by have := List.all_eq_true.1 hC.2 i (by simpa using hi); simpa using this) h0R hT0 hT hS hF hFk (fun i hi => AllOps.of hops i (Nat.zero_le _) (by omega)) (l.length - n)
    (fun ys lo hi w' hr hf hsp => by
      have hdl : (l.drop n).length = l.length - n := by simp
      have := wpAny_of_seq (md := .any) (Q' := Q) (P := P) (ops := l.toArray) (l.drop n) n (firstB l.length n) (fill ys 0 (l.take n) a) w' (fun j => by simp [List.getElem?_drop]) (by rw [hdl]; exact h5) (hdone ys lo hi w' hr (Facts.of (fun j hj => hf j (by simpa using List.all_eq_true.1 h7 j hj))) hsp)
      rw [hdl] at this
      exact this)
    n (Array.replicate l.length false) a w.drew ?_ ?_
  · have e : n + (l.length - n) = l.toArray.size := by simp; omega
    rw [e] at key
    rw [hsz]
    rw [hsz] at key
    exact key
  · have : ((List.range n).filter fun i => !(Array.replicate l.length false).getD i true) = List.range n := List.filter_eq_self.2 (fun i hi => by
      have := List.mem_range.1 hi
      have h : i < l.length := by omega
      simp [h])
    rw [this, List.length_range]
  · refine ⟨⟨by simp, fun j oj _ hl => (by rw [getD_replicate_false] at hl; cases hl), fun t _ ht => getD_in (by simpa using ht) (getD_replicate_false _ _)⟩, hR _, fun _ => hR0 _, ys0 (l.take n) a, fun _ => 0, fun _ => 0, (fill_same _ 0 a (fun j o d hj hd => ?_)).symm, fun j hj => (by rw [getD_replicate_false] at hj; cases hj), fun j _ hj => (by rw [getD_replicate_false] at hj; cases hj)⟩
    rw [Nat.zero_add]
    simp only [ys0, hj, Option.bind_some, hd]

theorem opF2_step {k : Nat} {C : List Nat} {R0 R : World → World → Prop} {F : Nat → Value → Nat → Nat → World → Prop} {D : List (List Nat)} {l : List Oper} {n i : Nat} {a0 : Act} {w0 : World}
    (h : ∀ (ys : Nat → Value) (lo hi : Nat → Nat) (w' : World), R w0 w' → (i = k ∨ C.contains i = true → R0 w0 w') → Facts F ys lo hi w' (D.getD i []) → ∀ K : Act → World → Prop,
      Hid (∀ v w'', F i v w'.heap.size w''.heap.size w'' → (i = k → R w' w'') → (i ≠ k → R0 w' w'') → K ((fill ys 0 (l.take n) a0).put (dstO l[i]?) v) w'') →
      OpB P Q l.toArray (fill ys 0 (l.take n) a0) w' K l[i]?) : OpF2 P Q k C R0 R F D l n a0 w0 i := by
  intro ys lo hi w' hr hs hf
  cases ho : l[i]? with
  | none =>
    obtain ⟨o, h1, -⟩ := (h ys lo hi w' hr hs hf (fun _ _ => True) (Lib.hid (fun _ _ _ _ _ => trivial))).out
    rw [ho] at h1; cases h1
  | some o =>
    refine wpOp_step (o := o) (by simpa using ho) (fun K hK => ?_)
    obtain ⟨o', h1, h2⟩ := (h ys lo hi w' hr hs hf K (Lib.hid (fun v w'' h1 h2 h3 => by rw [ho]; exact hK _ _ ⟨v, rfl, h1, h2, h3⟩))).out
    rw [ho] at h1; cases h1
    exact h2
end
end Go.Proofs.YtppncdbhebgcaaaGreatDoor
namespace Go.Proofs.YtppncdbhebgcaaaGreatDoor
open Go.RowKit

set_option maxRecDepth 20000 in
set_option maxHeartbeats 3200000 in
theorem spread04 (S lo hi : Nat) (w : World) (h1 : lo ≤ hi) (h2 : hi ≤ 300) : Calls Tryz.prog 170 #[setV S, .agg #[.int .i64 lo, .int .i64 hi]] w (RetE (setV (spreadW S lo (hi - lo + 1))) w) := by
  have HUP := Lib.hid (fun T n (h : n < 100000) w => up04 T n h w)
  unfold setV
  go_enter Tryz.func170, Tryz.ntmps170
  go_upto_region 1 with (fail)
  rw [zero24]
  obtain ⟨W, hW⟩ : ∃ W, W = ((w.alloc (.cells (rowV 24 .u64 (setF S)) 137)).alloc (.cells #[.int .i64 lo, .int .i64 hi] 38)).alloc (.cells (rowV 24 .u64 (fun _ => 0)) 137) := ⟨_, rfl⟩
  have b2 : Blk W w.heap.size 137 24 .u64 (setF S) := by rw [hW]; exact ((Blk.new' rfl _ _ _ _).alloc _).alloc _
  have b4 : Blk W (w.heap.size + 1 + 1) 137 24 .u64 (fun _ => 0) := by rw [hW]; exact Blk.new' (by simp) _ _ _ _
  have hs : W.heap[w.heap.size + 1]? = some (.cells #[.int .i64 lo, .int .i64 hi] 38) := by rw [hW, Below.heap_alloc _ _ _ (by simp)]; exact heap_new2 _ _ _
  have c0 : W.cell? ⟨w.heap.size + 1, 0, none⟩ = some (.int .i64 lo) := cell_of_heap hs 0
  have c1 : W.cell? ⟨w.heap.size + 1, 1, none⟩ = some (.int .i64 hi) := cell_of_heap hs 1
  have hE : Ext w W := by rw [hW]; exact (by repeat (first | exact Ext.refl _ | assumption | refine Ext.drewN ?_ _ | refine Ext.drew ?_ | refine Ext.alloc ?_ _))
  rw [← hW]
  have HE := Lib.hid hE
  have B4 := Lib.hid b4
  have HU := Lib.hid (HUP.out S lo (by omega) W)
  have hlt : w.heap.size + 1 + 1 < W.heap.size := b4.lt
  clear hW hE b4 hs
  refine wp_region_lit (wpList_loadB 137 _ _ Tryz.underlying137 rfl iSet rfl rfl rfl b2 (Nat.le_refl _) ?_)
  rw [show (fun j => setF S (0 + j)) = setF S from funext (fun j => by rw [Nat.zero_add])]
  clear b2
  go_upto_region 2 with (first
    | (go_at_call 173; refine HU.out.mono ?_; rintro e w1 ⟨rfl, hE1⟩; unfold setV)
    | (refine guardL (.store 137 (.tmp 5) (.tmp 12)) rfl ?_; rw [zero24]; refine wpList_storeB 137 _ _ iSet rfl rfl rfl rfl (Blk.new' rfl _ _ _ _) (Nat.le_refl _) ?_))
  obtain ⟨m, hm⟩ : ∃ m, m = hi - lo + 1 := ⟨_, rfl⟩
  obtain ⟨b5, hb5⟩ : ∃ b, b = w1.heap.size := ⟨_, rfl⟩
  have hle1 : W.heap.size ≤ b5 := by rw [hb5]; exact hE1.size
  have n5 : Blk ((w1.alloc (.cells (rowV 24 .u64 (fun _ => 0)) 137)).setCells w1.heap.size 0 (rowV 24 .u64 (setF (upN S lo))).toList) b5 137 24 .u64 (setF (spreadW S lo 1)) := by
    rw [hb5]
    refine ((Blk.new' rfl _ _ _ _).sets 0 (setF (upN S lo)) 24).congr (fun j hj => ?_)
    rw [if_pos (by omega), spreadW_one, Nat.sub_zero]
  have nE : Ext W ((w1.alloc (.cells (rowV 24 .u64 (fun _ => 0)) 137)).setCells w1.heap.size 0 (rowV 24 .u64 (setF (upN S lo))).toList) := Ext.setCells (hE1.alloc _) hE1.size _ _
  rw [← hb5] at n5 nE ⊢
  generalize World.setCells _ _ _ _ = W3 at n5 nE ⊢
  have d0 := nE.cell c0
  have d1 := nE.cell c1
  have B4' := Lib.hid (B4.out.ext nE)
  have B5 := Lib.hid n5
  have HE3 := Lib.hid (HE.out.trans nE)
  have hb54 : w.heap.size + 1 + 1 < b5 := by omega
  have HB5 := Lib.hid hb54
  have hmm : (hi : Int) - (lo : Int) + 1 = (m : Int) := by omega
  have HM := Lib.hid hm
  rw [← hm]
  have hm3 : m ≤ 301 := by omega
  clear c0 c1 nE n5 hb5 hle1 hE1 B4 HE HU hm hlt hb54
  go_wp2
  go_loopw [6] (fun x wr => ∃ d : Nat, 1 ≤ d ∧ d ≤ m ∧ x = .int .i64 d ∧ Ext w wr ∧ Blk wr (w.heap.size + 1 + 1) 137 24 .u64 (fun _ => 0) ∧ Blk wr b5 137 24 .u64 (setF (spreadW S lo d))) (fun x _ => m - (intOf x).toNat)
  case atStart => exact ⟨1, by omega, by have := HM.out; omega, rfl, HE3.out, B4'.out, B5.out⟩
  case round =>
    obtain ⟨d, hd1, hd2, rfl, hE, h4, h5⟩ := hrel
    have HE := Lib.hid hE
    have H4 := Lib.hid h4
    have H5 := Lib.hid h5
    clear hE h4 h5 B4' B5 HE3 d0 d1
    by_cases hlt : d < m
    · obtain ⟨s, hs⟩ : ∃ s, s = min d (m - d) := ⟨_, rfl⟩
      have hs1 : 1 ≤ s ∧ s ≤ d ∧ d + s ≤ m := by omega
      have hlt' : (d : Int) < (m : Int) := by omega
      have hmn : min (d : Int) ((m : Int) - (d : Int)) = (s : Int) := by omega
      have hif : (if (d : Int) ≤ (m : Int) - (d : Int) then (d : Int) else (m : Int) - (d : Int)) = (s : Int) := by split <;> omega
      have HSS := Lib.hid hs1
      have hs3 : s ≤ 301 := by omega
      clear hs hs1
      have hum : IntKind.i64.wrap ((d : Int) + (s : Int)) = ((d + s : Nat) : Int) := by rw [IntWalk.i64_in _ (by omega)]; simp
      obtain ⟨T, hT⟩ : ∃ T, T = spreadW S lo d := ⟨_, rfl⟩
      rw [← hT] at H5
      have HTT := Lib.hid hT
      have hif2 : (if (m : Int) - (d : Int) < (d : Int) then (m : Int) - (d : Int) else (d : Int)) = (s : Int) := by split <;> omega
      have HUPW := HUP
      clear hT
      go_upto_region 5 with (fail)
      unfold setV at HUPW
      refine wp_region_facts2 9 [[], [], [], [1, 2], [0, 3], [], [], [5, 6], [4]] [7, 8] 8 [0, 1, 3, 4] Ext (Ups b5)
        (FL [Is (.agg (rowV 24 .u64 (setF T))), Is (.agg (rowV 24 .u64 (setF T))), Is (.int .i64 s), Is (.agg (rowV 24 .u64 (setF (upN T s)))), Is (.agg (rowV 24 .u64 (setF (T ||| upN T s)))), Is (.int .i64 d), Is (.int .i64 s), Is (.int .i64 ((d : Int) + (s : Int))), (fun _ _ _ w => Blk w b5 137 24 .u64 (setF (T ||| upN T s)))])
        (by kernel_rfl) (by kernel_rfl) (by kernel_rfl) (fun _ _ => Ups.ext) (fun _ _ _ => Ext.trans) Ext.refl (Ups.refl b5) (fun _ _ _ => Ups.trans) (fun _ _ h => h.size) ?_ ?_ ⟨?_, ?_, ?_, ?_, ?_, ?_, ?_, ?_, ?_, trivial⟩ ?_
      · exact FL.mono ⟨Is.mono, Is.mono, Is.mono, Is.mono, Is.mono, Is.mono, Is.mono, Is.mono, fun _ _ _ _ _ h hb => hb.ext h, trivial⟩
      · intro j v s t w w' hj hr
        match j, hj with
        | 0, _ => exact fun h => h
        | 1, _ => exact fun h => h
        | 2, _ => exact fun h => h
        | 3, _ => exact fun h => h
        | 4, _ => exact fun h => h
        | 5, _ => exact fun h => h
        | 6, _ => exact fun h => h
        | 7, _ => exact fun h => h
        | 8, hj => exact absurd rfl hj
        | n + 9, _ => exact fun h => h
      · refine opF2_step ?_
        intro ys l0 h0 w' hr hs hf K hK
        have hb := H5.out.drew.ext (hs (by first | exact Or.inr rfl | exact Or.inl rfl))
        clear hf hs
        simp only [fill, Act.put, dstO, List.take_succ_cons, List.take_zero, List.setIfInBounds_toArray, List.set_cons_zero, List.set_cons_succ, List.getElem?_cons_zero, Nat.zero_add, Nat.reduceAdd] at hK ⊢
        refine OpB.mkG rfl (wp_loadB 137 _ _ Tryz.underlying137 rfl iSet rfl rfl hb (Nat.le_refl _) ?_)
        rw [show (fun j => setF T (0 + j)) = setF T from funext (fun j => by rw [Nat.zero_add])]
        exact hK.out _ _ rfl (fun h => by cases h) (fun _ => Ext.refl _)
      · refine opF2_step ?_
        intro ys l0 h0 w' hr hs hf K hK
        have hb := H5.out.drew.ext (hs (by first | exact Or.inr rfl | exact Or.inl rfl))
        clear hf hs
        simp only [fill, Act.put, dstO, List.take_succ_cons, List.take_zero, List.setIfInBounds_toArray, List.set_cons_zero, List.set_cons_succ, List.getElem?_cons_zero, List.getElem?_cons_succ, Nat.zero_add, Nat.reduceAdd] at hK ⊢
        refine OpB.mkG rfl (wp_loadB 137 _ _ Tryz.underlying137 rfl iSet rfl rfl hb (Nat.le_refl _) ?_)
        rw [show (fun j => setF T (0 + j)) = setF T from funext (fun j => by rw [Nat.zero_add])]
        exact hK.out _ _ rfl (fun h => by cases h) (fun _ => Ext.refl _)
      · refine opF2_step ?_
        intro ys l0 h0 w' hr hs hf K hK
        clear hf hs
        simp only [fill, Act.put, dstO, List.take_succ_cons, List.take_zero, List.setIfInBounds_toArray, List.set_cons_zero, List.set_cons_succ, List.getElem?_cons_zero, List.getElem?_cons_succ, Nat.zero_add, Nat.reduceAdd] at hK ⊢
        refine OpB.mk' ?_
        go_simp
        exact hK.out _ _ rfl (fun h => by cases h) (fun _ => Ext.refl _)
      · refine opF2_step ?_
        intro ys l0 h0 w' hr hs hf K hK
        obtain ⟨f0, f1, -⟩ := hf
        have e0 : ys 1 = _ := f0
        have e1 : ys 2 = _ := f1
        clear hs
        simp only [fill, Act.put, dstO, List.take_succ_cons, List.take_zero, List.setIfInBounds_toArray, List.set_cons_zero, List.set_cons_succ, List.getElem?_cons_zero, List.getElem?_cons_succ, Nat.zero_add, Nat.reduceAdd] at hK ⊢
        simp only [e0, e1] at hK ⊢
        clear e0 e1 f0 f1
        refine OpB.mk' ?_
        go_simp
        refine (HUPW.out T s (by omega) w').mono ?_
        rintro e w2 ⟨rfl, hE2⟩
        exact hK.out _ _ rfl (fun h => by cases h) (fun _ => hE2)
      · refine opF2_step ?_
        intro ys l0 h0 w' hr hs hf K hK
        obtain ⟨f0, f1, -⟩ := hf
        have e0 : ys 0 = _ := f0
        have e1 : ys 3 = _ := f1
        clear hs
        simp only [fill, Act.put, dstO, List.take_succ_cons, List.take_zero, List.setIfInBounds_toArray, List.set_cons_zero, List.set_cons_succ, List.getElem?_cons_zero, List.getElem?_cons_succ, Nat.zero_add, Nat.reduceAdd] at hK ⊢
        simp only [e0, e1] at hK ⊢
        clear e0 e1 f0 f1
        refine OpB.mk' ?_
        go_simp
        refine (orS04 T (upN T s) w').mono ?_
        rintro e w2 ⟨rfl, hE2⟩
        exact hK.out _ _ rfl (fun h => by cases h) (fun _ => hE2)
      · refine opF2_step ?_
        intro ys l0 h0 w' hr hs hf K hK
        clear hf hs
        simp only [fill, Act.put, dstO, List.take_succ_cons, List.take_zero, List.setIfInBounds_toArray, List.set_cons_zero, List.set_cons_succ, List.getElem?_cons_zero, List.getElem?_cons_succ, Nat.zero_add, Nat.reduceAdd] at hK ⊢
        refine OpB.mk' ?_
        go_simp
        exact hK.out _ _ rfl (fun h => by cases h) (fun _ => Ext.refl _)
      · refine opF2_step ?_
        intro ys l0 h0 w' hr hs hf K hK
        clear hf hs
        simp only [fill, Act.put, dstO, List.take_succ_cons, List.take_zero, List.setIfInBounds_toArray, List.set_cons_zero, List.set_cons_succ, List.getElem?_cons_zero, List.getElem?_cons_succ, Nat.zero_add, Nat.reduceAdd] at hK ⊢
        refine OpB.mk' ?_
        go_simp
        exact hK.out _ _ rfl (fun h => by cases h) (fun _ => Ext.refl _)
      · refine opF2_step ?_
        intro ys l0 h0 w' hr hs hf K hK
        obtain ⟨f0, f1, -⟩ := hf
        have e0 : ys 5 = _ := f0
        have e1 : ys 6 = _ := f1
        clear hs
        simp only [fill, Act.put, dstO, List.take_succ_cons, List.take_zero, List.setIfInBounds_toArray, List.set_cons_zero, List.set_cons_succ, List.getElem?_cons_zero, List.getElem?_cons_succ, Nat.zero_add, Nat.reduceAdd] at hK ⊢
        simp only [e0, e1] at hK ⊢
        clear e0 e1 f0 f1
        refine OpB.mk' ?_
        go_simp
        exact hK.out _ _ rfl (fun h => by cases h) (fun _ => Ext.refl _)
      · refine opF2_step ?_
        intro ys l0 h0 w' hr hs hf K hK
        obtain ⟨f0, -⟩ := hf
        have e0 : ys 4 = _ := f0
        have hb := H5.out.drew.ext (hs (by first | exact Or.inr rfl | exact Or.inl rfl))
        clear hs
        simp only [fill, Act.put, dstO, List.take_succ_cons, List.take_zero, List.setIfInBounds_toArray, List.set_cons_zero, List.set_cons_succ, List.getElem?_cons_zero, List.getElem?_cons_succ, Nat.zero_add, Nat.reduceAdd] at hK ⊢
        simp only [e0] at hK ⊢
        clear e0 f0
        refine OpB.mkG rfl (wp_storeB 137 _ _ iSet rfl rfl rfl hb (Nat.le_refl _) ?_)
        refine hK.out undef _ ?_ (fun _ => (Ups.refl _ _).setCells _ _) (fun h => absurd rfl h)
        exact (hb.sets 0 (setF (T ||| upN T s)) 24).congr (fun j hj => by rw [if_pos (by omega), Nat.sub_zero])

      intro ys l0 h0 w2 hr hf hsp
      obtain ⟨f7, f8, -⟩ := hf
      have e7 : ys 7 = _ := f7
      have h5' : Blk w2 b5 137 24 .u64 (setF (T ||| upN T s)) := f8
      simp only [fill, Act.put, List.take_succ_cons, List.take_zero, List.setIfInBounds_toArray, List.set_cons_zero, List.set_cons_succ, Nat.zero_add, Nat.reduceAdd, List.drop_succ_cons, List.drop_zero]
      rw [e7]
      have NE := Lib.hid (HE.out.drew.ups hr (by have := HB5.out; omega))
      have N4 := Lib.hid (H4.out.drew.ups hr (by have := HB5.out; omega))
      have N5 := Lib.hid (show Blk w2 b5 137 24 .u64 (setF (spreadW S lo (d + s))) from by rw [← spreadW_add HSS.out.2.1, ← HTT.out]; exact h5')
      clear hr hsp f7 f8 h5' e7 HE H4 H5 HTT hum hif hif2 hmn
      go_wp2
      go_roundw
      case rel => exact ⟨d + s, by omega, HSS.out.2.2, by simp, NE.out, N4.out, N5.out⟩
      case measure => have := HSS.out; simp [intOf]; omega
    · obtain rfl : d = m := by omega
      go_upto_region 6 with (fail)
      refine wp_region_lit (wpList_loadB 137 _ _ Tryz.underlying137 rfl iSet rfl rfl rfl H5.out (Nat.le_refl _) ?_)
      refine wpList_storeB 137 _ _ iSet rfl rfl rfl rfl H4.out (Nat.le_refl _) ?_
      refine wpList_nil ?_
      have HF := Lib.hid (H4.out.sets 0 (fun j => setF (spreadW S lo d) (0 + j)) 24)
      have HFE : Ext w _ := Ext.setCells (b := w.heap.size + 1 + 1) HE.out (by omega) 0 (rowV 24 .u64 (fun j => setF (spreadW S lo d) (0 + j))).toList
      generalize World.setCells wr _ _ _ = W9 at HF HFE ⊢
      have HG := Lib.hid (HF.out.congr (g := setF (spreadW S lo d)) (fun j hj => by simp only [Nat.sub_zero, Nat.zero_add]; rw [if_pos ⟨Nat.zero_le _, hj⟩]))
      have HFE := Lib.hid HFE
      go_wp2
      exact ret_row 137 _ rfl rfl HG.out Tryz.underlying137 rfl iSet rfl (RetE.fin HFE.out (by first | rfl | rw [HM.out]))
end Go.Proofs.YtppncdbhebgcaaaGreatDoor
namespace Go.Proofs.YtppncdbhebgcaaaGreatDoor
open Go.RowKit

theorem part_row (f : Nat → Int) (i : Nat) (hi : i < 24) (w : World) : (part 135 (rowV 24 .u64 f) i).run Tryz.prog w = .ok (.int .u64 (f i)) w := by
  have hc := rowV_get (k := .u64) (f := f) hi
  simp only [part, Sem.run_bind, Tryz.isAgg135 w, Result.andThen_ok, hc]
  simp
theorem equal_u64 (d : Nat) (a b : Int) (w : World) : (Op.equalIn (d + 1) 135 (.int .u64 a) (.int .u64 b)).run Tryz.prog w = .ok (a == b) w := by
  rw [Op.equalIn]
  simp only [Sem.run_bind, run_underlying Tryz.underlying135 w, Result.andThen_ok]
  simp
def sameB (f g : Nat → Int) : Bool := (List.range 24).all (fun i => f i == g i)
theorem run_equal_row (f g : Nat → Int) (w : World) : (Op.equal 137 (.agg (rowV 24 .u64 f)) (.agg (rowV 24 .u64 g))).run Tryz.prog w = .ok (sameB f g) w := by
  unfold Op.equal
  rw [show Op.maxDepth = 9998 + 1 + 1 from rfl]
  generalize 9998 = d
  rw [Op.equalIn]
  simp only [Sem.run_bind, run_underlying Tryz.underlying137 w, Result.andThen_ok, Tryz.sizeOf135 w, Std.Legacy.Range.forIn_eq_forIn_range', Nat.mul_one]
  have key : ∀ (l : List Nat), (∀ i ∈ l, i < 24) → (forIn l ((none : Option Bool), ()) (fun i (__s : Option Bool × Unit) => do
            let __do_lift ← part 135 (rowV 24 .u64 f) i
            let __do_lift_1 ← part 135 (rowV 24 .u64 g) i
            let __do_lift ← Op.equalIn (d + 1) 135 __do_lift __do_lift_1
            if (!__do_lift) = true then pure (ForInStep.done (some false, ())) else pure (ForInStep.yield (none, ()))) : Sem (Option Bool × Unit)).run Tryz.prog w = .ok (cond (l.all (fun i => f i == g i)) ((none : Option Bool), ()) (some false, ())) w := by
    intro l
    induction l with
    | nil => intro _; simp
    | cons i l ih =>
      intro hl
      have hi := hl i List.mem_cons_self
      rw [List.forIn_cons]
      simp only [Sem.run_bind, part_row f i hi w, part_row g i hi w, Result.andThen_ok, equal_u64, List.all_cons]
      by_cases e : (f i == g i) = true
      · simp only [e, Bool.not_true, Bool.false_eq_true, if_false, Sem.run_pure, Result.andThen_ok, Bool.true_and]
        exact ih (fun x hx => hl x (List.mem_cons_of_mem _ hx))
      · have e' : (f i == g i) = false := by simpa using e
        simp [e']
  have k24 := key (List.range' 0 24) (fun i hi => by simp [List.mem_range'_1] at hi; omega)
  rw [show Std.Legacy.Range.size [:24] = 24 from by decide]
  rw [k24]
  unfold sameB
  rw [List.range_eq_range']
  cases (List.range' 0 24).all (fun i => f i == g i) <;> simp
end Go.Proofs.YtppncdbhebgcaaaGreatDoor
namespace Go.Proofs.YtppncdbhebgcaaaGreatDoor
open Go.RowKit

/-- Eight sets, one behind the other. -/
def pF (q : Nat → Nat) : Nat → Int := fun i => setF (q (i / 24)) (i % 24)
theorem pF_row (q : Nat → Nat) (c : Nat) : rowV 24 .u64 (fun j => pF q (c * 24 + j)) = rowV 24 .u64 (setF (q c)) :=
  rowV_congr (fun j hj => by unfold pF; rw [show (c * 24 + j) / 24 = c by omega, show (c * 24 + j) % 24 = j by omega])
theorem pF_row' (q : Nat → Nat) (c : Nat) : rowV 24 .u64 (fun j => pF q (0 + c * 24 + j)) = rowV 24 .u64 (setF (q c)) := by rw [Nat.zero_add]; exact pF_row q c

theorem sameB_zero (S : Nat) : sameB (setF S) (fun _ => 0) = true ↔ ∀ i, i < 24 → wd S i = 0 := by
  unfold sameB setF
  rw [List.all_eq_true]
  constructor
  · intro h i hi
    have := h i (List.mem_range.2 hi)
    simp at this
    exact this
  · intro h i hi
    rw [h i (List.mem_range.1 hi)]; rfl
theorem empty_words {S : Nat} (h : ∀ i, i < 24 → wd S i = 0) : ∀ k, k < 1536 → S.testBit k = false := by
  intro k hk
  have h1 := h (k / 64) (by omega)
  have h2 := testBit_wd (S := S) (i := k / 64) (k := k % 64)
  rw [h1, Nat.zero_testBit, decide_eq_true (by omega), Bool.true_and, show 64 * (k / 64) + k % 64 = k by omega] at h2
  exact h2.symm
theorem spreadW_empty {S lo w : Nat} (h : ∀ k, k < 1536 → S.testBit k = false) : spreadW S lo w = 0 := by
  rw [zero_iff]
  intro k
  cases hk : (spreadW S lo w).testBit k
  · rfl
  · obtain ⟨h1, x, -, -, h2⟩ := testBit_spreadW.1 hk
    rw [h _ (by omega)] at h2; cases h2
theorem guard84 (x y : Operand) (a b : Array Value) (w : World) : (eqGuard .neq 137 x y (.agg a) (.agg b)).run Tryz.prog w = .ok () w := by
  have h : Tryz.prog.eqGuardType Tryz.prog.depth 137 = false := by kernel_rfl
  unfold eqGuard
  simp [h]

theorem wpList_neq84 {ops : Array Oper} {rest : List Oper} {op : Oper} {a : Act} {w : World} {Q : Exit → Act → World → Prop} {f g : Nat → Int} (x y : Operand) (hg : op.guard = none) (ho : op.op = .binOp .neq 137 x y 137)
    (hx : a.eval x = .agg (rowV 24 .u64 f)) (hy : a.eval y = .agg (rowV 24 .u64 g)) (h : wpList Tryz.prog ops Q rest (a.put op.dst (.bool (!sameB f g))) w) : wpList Tryz.prog ops Q (op :: rest) a w :=
  wpList_plain hg fun _ hK => by
    unfold Oper.wp execOp
    simp only [ho, hx, hy, Sem.run_bind, guard84, Result.andThen_ok, binOp, run_equal_row, Sem.run_pure]
    exact hK _ _ h

set_option maxRecDepth 20000 in
set_option maxHeartbeats 3200000 in
theorem spreadP04 (q : Nat → Nat) (b : Nat) (t : TypeId) (lo hi : Nat) (w : World) (hB : Blk w b t 192 .u64 (pF q)) (h1 : lo ≤ hi) (h2 : hi ≤ 300) :
    Calls Tryz.prog 163 #[.pointer (some ⟨b, 0, none⟩), .agg #[.int .i64 lo, .int .i64 hi]] w
      (fun e w' => e = .returned (.tuple #[]) ∧ Ups b w w' ∧ Blk w' b t 192 .u64 (pF (fun c => spreadW (q c) lo (hi - lo + 1)))) := by
  have HSP := Lib.hid (fun S w => spread04 S lo hi w h1 h2)
  unfold setV at HSP
  go_enter Tryz.func163, Tryz.ntmps163
  go_upto_region 1 with (fail)
  obtain ⟨W, hW⟩ : ∃ W, W = w.alloc (.cells #[.int .i64 lo, .int .i64 hi] 38) := ⟨_, rfl⟩
  have hs : W.heap[w.heap.size]? = some (.cells #[.int .i64 lo, .int .i64 hi] 38) := by rw [hW]; exact heap_new _ _
  have hU : Ups b w W := by rw [hW]; exact (Ups.refl b w).alloc _
  have hb : Blk W b t 192 .u64 (pF q) := by rw [hW]; exact hB.alloc _
  have hbs : b < w.heap.size := hB.lt
  rw [← hW]
  have c0 : W.cell? ⟨w.heap.size, 0, none⟩ = some (.int .i64 lo) := cell_of_heap hs 0
  have c1 : W.cell? ⟨w.heap.size, 1, none⟩ = some (.int .i64 hi) := cell_of_heap hs 1
  have HU := Lib.hid hU
  have HB := Lib.hid hb
  have HBS := Lib.hid hbs
  have HC := Lib.hid (show _ ∧ _ from ⟨c0, c1⟩)
  clear hW hs hU hb hB hbs c0 c1
  go_wp2
  go_loopw [5] (fun i wr => ∃ k : Nat, k ≤ 8 ∧ i = .int .i64 k ∧ Ups b w wr ∧ Ups b W wr ∧ Blk wr b t 192 .u64 (pF (fun c => if c < k then spreadW (q c) lo (hi - lo + 1) else q c))) (fun i _ => 8 - (intOf i).toNat)
  case atStart => exact ⟨0, by omega, rfl, HU.out, Ups.refl _ _, HB.out.congr (fun j _ => by unfold pF; simp)⟩
  case round =>
    obtain ⟨k, hk, rfl, hU, hU2, hb⟩ := hrel
    have HUR := Lib.hid hU
    have HUW := Lib.hid hU2
    have HBR := Lib.hid hb
    clear hU hU2 hb
    by_cases hlt : k < 8
    · have hlt' : (k : Int) < 8 := by omega
      obtain ⟨z, hz⟩ : ∃ z : Nat → Nat, z = fun c => if c < k then spreadW (q c) lo (hi - lo + 1) else q c := ⟨_, rfl⟩
      rw [← hz] at HBR
      have hzk : z k = q k := by rw [hz]; simp
      have HZ := Lib.hid hz
      clear hz
      have HZK := Lib.hid hzk
      clear hzk
      have hcells := HC.out
      have d0 := HUW.out.cell hcells.1 (by have := HBS.out; omega)
      have d1 := HUW.out.cell hcells.2 (by have := HBS.out; omega)
      have HD := Lib.hid (fun y (h : Ext wr.drew y) => (⟨h.cell d0, h.cell d1⟩ : y.cell? ⟨w.heap.size, 0, none⟩ = some (.int .i64 lo) ∧ y.cell? ⟨w.heap.size, 1, none⟩ = some (.int .i64 hi)))
      clear hcells d0 d1
      cases hsame : sameB (setF (z k)) (fun _ => 0)
      · go_upto_region 5 with (first
          | (refine guardL (.load 137 (.tmp 11)) rfl ?_; refine wpList_loadB 137 _ _ Tryz.underlying137 rfl iSet rfl rfl rfl HBR.out (by omega) ?_; first | rw [pF_row'] | rw [pF_row])
          | (refine guardL (.binOp .neq 137 (.tmp 12) (.tmp 13) 137) rfl ?_; rw [zero24]; refine wpList_neq84 _ _ rfl rfl rfl rfl ?_; rw [hsame, Bool.not_false]))
        refine wp_region_facts 11 [[], [], [], [], [2], [4, 3], [5], [], [6, 7], [0], [9, 1]] [8, 10] Ext (FL [Is (.pointer (some ⟨b, 0, none⟩)), Is (.int .i64 k), Is (.pointer (some ⟨b, 0, none⟩)), Is (.int .i64 k), Is (.pointer (some ⟨b, 0, none⟩)), Is (.pointer (some ⟨b, k * 24, none⟩)), Is (.agg (rowV 24 .u64 (setF (z k)))), Is (.agg #[.int .i64 lo, .int .i64 hi]), Is (.agg (rowV 24 .u64 (setF (spreadW (z k) lo (hi - lo + 1))))), Is (.pointer (some ⟨b, 0, none⟩)), Is (.pointer (some ⟨b, k * 24, none⟩))]) (by kernel_rfl) (by kernel_rfl) Ext.refl (fun _ _ _ => Ext.trans) (fun _ _ => Ext.size) (FL.mono ⟨Is.mono, Is.mono, Is.mono, Is.mono, Is.mono, Is.mono, Is.mono, Is.mono, Is.mono, Is.mono, Is.mono, trivial⟩) ⟨?_, ?_, ?_, ?_, ?_, ?_, ?_, ?_, ?_, ?_, ?_, trivial⟩ ?_
        · refine opF_step ?_
          intro ys l0 h0 w' hr hf K hK
          clear hf
          simp only [fill, Act.put, dstO, List.take_succ_cons, List.take_zero, List.setIfInBounds_toArray, List.set_cons_zero, List.set_cons_succ, List.getElem?_cons_zero, Nat.zero_add, Nat.reduceAdd] at hK ⊢
          refine OpB.mk' ?_
          go_simp
          exact hK.out _ _ rfl (Ext.refl _)
        · refine opF_step ?_
          intro ys l0 h0 w' hr hf K hK
          clear hf
          simp only [fill, Act.put, dstO, List.take_succ_cons, List.take_zero, List.setIfInBounds_toArray, List.set_cons_zero, List.set_cons_succ, List.getElem?_cons_zero, List.getElem?_cons_succ, Nat.zero_add, Nat.reduceAdd] at hK ⊢
          refine OpB.mk' ?_
          go_simp
          exact hK.out _ _ rfl (Ext.refl _)
        · refine opF_step ?_
          intro ys l0 h0 w' hr hf K hK
          clear hf
          simp only [fill, Act.put, dstO, List.take_succ_cons, List.take_zero, List.setIfInBounds_toArray, List.set_cons_zero, List.set_cons_succ, List.getElem?_cons_zero, List.getElem?_cons_succ, Nat.zero_add, Nat.reduceAdd] at hK ⊢
          refine OpB.mk' ?_
          go_simp
          exact hK.out _ _ rfl (Ext.refl _)
        · refine opF_step ?_
          intro ys l0 h0 w' hr hf K hK
          clear hf
          simp only [fill, Act.put, dstO, List.take_succ_cons, List.take_zero, List.setIfInBounds_toArray, List.set_cons_zero, List.set_cons_succ, List.getElem?_cons_zero, List.getElem?_cons_succ, Nat.zero_add, Nat.reduceAdd] at hK ⊢
          refine OpB.mk' ?_
          go_simp
          exact hK.out _ _ rfl (Ext.refl _)
        · refine opF_step ?_
          intro ys l0 h0 w' hr hf K hK
          obtain ⟨f0, -⟩ := hf
          have e0 : ys 2 = _ := f0
          simp only [fill, Act.put, dstO, List.take_succ_cons, List.take_zero, List.setIfInBounds_toArray, List.set_cons_zero, List.set_cons_succ, List.getElem?_cons_zero, List.getElem?_cons_succ, Nat.zero_add, Nat.reduceAdd] at hK ⊢
          simp only [e0] at hK ⊢
          clear e0 f0
          refine OpB.mk' ?_
          go_simp
          exact hK.out _ _ rfl (Ext.refl _)
        · refine opF_step ?_
          intro ys l0 h0 w' hr hf K hK
          obtain ⟨f0, f1, -⟩ := hf
          have e0 : ys 4 = _ := f0
          have e1 : ys 3 = _ := f1
          simp only [fill, Act.put, dstO, List.take_succ_cons, List.take_zero, List.setIfInBounds_toArray, List.set_cons_zero, List.set_cons_succ, List.getElem?_cons_zero, List.getElem?_cons_succ, Nat.zero_add, Nat.reduceAdd] at hK ⊢
          simp only [e0, e1] at hK ⊢
          clear e0 e1 f0 f1
          refine OpB.mk' ?_
          go_simp
          exact hK.out _ _ rfl (Ext.refl _)
        · refine opF_step ?_
          intro ys l0 h0 w' hr hf K hK
          obtain ⟨f0, -⟩ := hf
          have e0 : ys 5 = _ := f0
          simp only [fill, Act.put, dstO, List.take_succ_cons, List.take_zero, List.setIfInBounds_toArray, List.set_cons_zero, List.set_cons_succ, List.getElem?_cons_zero, List.getElem?_cons_succ, Nat.zero_add, Nat.reduceAdd] at hK ⊢
          simp only [e0] at hK ⊢
          clear e0 f0
          refine OpB.mkG rfl (wp_loadB 137 _ _ Tryz.underlying137 rfl iSet rfl rfl (HBR.out.drew.ext hr) (by omega) ?_)
          rw [pF_row]
          exact hK.out _ _ rfl (Ext.refl _)
        · refine opF_step ?_
          intro ys l0 h0 w' hr hf K hK
          clear hf
          obtain ⟨s0, s1⟩ := HD.out w' hr
          simp only [fill, Act.put, dstO, List.take_succ_cons, List.take_zero, List.setIfInBounds_toArray, List.set_cons_zero, List.set_cons_succ, List.getElem?_cons_zero, List.getElem?_cons_succ, Nat.zero_add, Nat.reduceAdd] at hK ⊢
          refine OpB.mk' ?_
          go_simp
          exact hK.out _ _ rfl (Ext.refl _)
        · refine opF_step ?_
          intro ys l0 h0 w' hr hf K hK
          obtain ⟨f0, f1, -⟩ := hf
          have e0 : ys 6 = _ := f0
          have e1 : ys 7 = _ := f1
          simp only [fill, Act.put, dstO, List.take_succ_cons, List.take_zero, List.setIfInBounds_toArray, List.set_cons_zero, List.set_cons_succ, List.getElem?_cons_zero, List.getElem?_cons_succ, Nat.zero_add, Nat.reduceAdd] at hK ⊢
          simp only [e0, e1] at hK ⊢
          clear e0 e1 f0 f1
          refine OpB.mk' ?_
          go_simp
          refine (HSP.out (z k) w').mono ?_
          rintro e w2 ⟨rfl, hE2⟩
          exact hK.out _ _ rfl hE2
        · refine opF_step ?_
          intro ys l0 h0 w' hr hf K hK
          obtain ⟨f0, -⟩ := hf
          have e0 : ys 0 = _ := f0
          simp only [fill, Act.put, dstO, List.take_succ_cons, List.take_zero, List.setIfInBounds_toArray, List.set_cons_zero, List.set_cons_succ, List.getElem?_cons_zero, List.getElem?_cons_succ, Nat.zero_add, Nat.reduceAdd] at hK ⊢
          simp only [e0] at hK ⊢
          clear e0 f0
          refine OpB.mk' ?_
          go_simp
          exact hK.out _ _ rfl (Ext.refl _)
        · refine opF_step ?_
          intro ys l0 h0 w' hr hf K hK
          obtain ⟨f0, f1, -⟩ := hf
          have e0 : ys 9 = _ := f0
          have e1 : ys 1 = _ := f1
          simp only [fill, Act.put, dstO, List.take_succ_cons, List.take_zero, List.setIfInBounds_toArray, List.set_cons_zero, List.set_cons_succ, List.getElem?_cons_zero, List.getElem?_cons_succ, Nat.zero_add, Nat.reduceAdd] at hK ⊢
          simp only [e0, e1] at hK ⊢
          clear e0 e1 f0 f1
          refine OpB.mk' ?_
          go_simp
          exact hK.out _ _ rfl (Ext.refl _)
        intro ys l0 h0 w2 hr hf hsp
        obtain ⟨f8, f10, -⟩ := hf
        have e8 : ys 8 = _ := f8
        have e10 : ys 10 = _ := f10
        simp only [fill, Act.put, List.take_succ_cons, List.take_zero, List.setIfInBounds_toArray, List.set_cons_zero, List.set_cons_succ, Nat.zero_add, Nat.reduceAdd, List.drop_succ_cons, List.drop_zero]
        rw [e8, e10]
        clear e8 f8 e10 f10 hsp
        have nb := HBR.out.drew.ext hr
        refine wpList_storeB 137 _ _ iSet rfl rfl rfl rfl nb (by omega) ?_
        refine wpList_nil ?_
        have n2 := nb.sets (k * 24) (setF (spreadW (z k) lo (hi - lo + 1))) 24
        have U3 := ((HUR.out.drew.trans (Ups.ext hr))).setCells (k * 24) (rowV 24 .u64 (setF (spreadW (z k) lo (hi - lo + 1)))).toList
        have U4 := ((HUW.out.drew.trans (Ups.ext hr))).setCells (k * 24) (rowV 24 .u64 (setF (spreadW (z k) lo (hi - lo + 1)))).toList
        generalize World.setCells w2 _ _ _ = W9 at n2 U3 U4 ⊢
        have N2 := Lib.hid (n2.congr (g := pF (fun c => if c < k + 1 then spreadW (q c) lo (hi - lo + 1) else q c)) (fun j hj => by
          rw [HZK.out]
          unfold pF
          rw [HZ.out]
          by_cases e : k * 24 ≤ j ∧ j < k * 24 + 24
          · rw [if_pos e]
            simp only
            rw [show j / 24 = k by omega, if_pos (by omega), show j % 24 = j - k * 24 by omega]
          · rw [if_neg e]
            simp only
            by_cases e2 : j / 24 < k
            · rw [if_pos e2, if_pos (by omega)]
            · rw [if_neg e2, if_neg (by omega)]))
        have U3 := Lib.hid U3
        have U4 := Lib.hid U4
        clear n2 nb hr HBR HUR HUW HD HZ HZK
        go_wp2
        go_roundw
        case rel => exact ⟨k + 1, by omega, by simp, U3.out, U4.out, N2.out⟩
        case measure => simp [intOf]; omega
      · have hz0 : spreadW (z k) lo (hi - lo + 1) = 0 ∧ ∀ i, i < 24 → wd (z k) i = 0 := ⟨spreadW_empty (empty_words ((sameB_zero _).1 hsame)), (sameB_zero _).1 hsame⟩
        have N2 := Lib.hid (HBR.out.congr (g := pF (fun c => if c < k + 1 then spreadW (q c) lo (hi - lo + 1) else q c)) (fun j hj => by
          unfold pF
          by_cases e : j / 24 = k
          · rw [e]
            simp only
            rw [if_pos (by omega), ← HZK.out, hz0.1]
            unfold setF
            rw [hz0.2 _ (by omega), wd_zero]
          · rw [HZ.out]
            simp only
            by_cases e2 : j / 24 < k
            · rw [if_pos e2, if_pos (by omega)]
            · rw [if_neg e2, if_neg (by omega)]))
        clear hz0 HZ HZK HD
        go_wp2_with (first
          | (refine guardL (.load 137 (.tmp 11)) rfl ?_; refine wpList_loadB 137 _ _ Tryz.underlying137 rfl iSet rfl rfl rfl HBR.out (by omega) ?_; first | rw [pF_row'] | rw [pF_row])
          | (refine guardL (.binOp .neq 137 (.tmp 12) (.tmp 13) 137) rfl ?_; rw [zero24]; refine wpList_neq84 _ _ rfl rfl rfl rfl ?_; rw [hsame, Bool.not_true]))
        go_roundw
        case rel => exact ⟨k + 1, by omega, by simp, HUR.out, HUW.out, N2.out⟩
        case measure => simp [intOf]; omega
    · obtain rfl : k = 8 := by omega
      go_wp2
      go_end0
      exact ⟨rfl, HUR.out, HBR.out.congr (fun j hj => by unfold pF; simp only; rw [if_pos (by omega)])⟩
end Go.Proofs.YtppncdbhebgcaaaGreatDoor
namespace Go.Proofs.YtppncdbhebgcaaaGreatDoor
open Go.RowKit

theorem tmod100 (n : Int) : -100 < n.tmod 100 ∧ n.tmod 100 < 100 ∧ (n.tmod 100) % 100 = n % 100 := by
  by_cases h : 0 ≤ n
  · rw [Int.tmod_eq_emod_of_nonneg h]; omega
  · have e : n.tmod 100 = -((-n) % 100) := by
      have h1 := Int.neg_tmod (-n) 100
      rw [Int.neg_neg] at h1
      rw [h1, Int.tmod_eq_emod_of_nonneg (by omega)]
    rw [e]; omega
set_option maxRecDepth 20000 in
theorem mod04 (n : Int) (w : World) : Calls Tryz.prog 152 #[.int .i64 n] w (RetE (.int .i64 (n % 100)) w) := by
  obtain ⟨h1, h2, h3⟩ := tmod100 n
  have e1 : IntKind.i64.wrap (n.tmod 100) = n.tmod 100 := IntWalk.i64_in _ (by omega)
  have e3 : IntKind.i64.wrap (n.tmod 100 + 100) = n.tmod 100 + 100 := IntWalk.i64_in _ (by omega)
  have e2 : (n.tmod 100 + 100).tmod 100 = n % 100 := by
    rw [Int.tmod_eq_emod_of_nonneg (by omega)]; omega
  have e4 : IntKind.i64.wrap (n % 100) = n % 100 := IntWalk.i64_in _ (by omega)
  obtain ⟨r, hr⟩ : ∃ r, r = n % 100 := ⟨_, rfl⟩
  rw [← hr] at e2 e4 ⊢
  clear h1 h2 h3 hr
  go_enter Tryz.func152, Tryz.ntmps152
  go_wp2
  go_ret
  exact RetE.fin (Ext.refl _) rfl

set_option maxRecDepth 20000 in
theorem aheadFn04 (n sh : Int) (B : Nat) (w : World) (hc : w.cell? ⟨B, 0, none⟩ = some (.int .i64 sh)) (hn : 0 ≤ n ∧ n ≤ 99) (hs : 0 ≤ sh ∧ sh ≤ 99) :
    Calls Tryz.prog 165 #[.int .i64 n, .pointer (some ⟨B, 0, none⟩)] w (RetE (.int .i64 ((n - sh) % 100)) w) := by
  have HC := Lib.hid (mod04 (n - sh) w)
  go_enter Tryz.func165, Tryz.ntmps165
  go_wp2_with (go_at_call 152; refine HC.out.mono ?_; rintro e w' ⟨rfl, hE⟩)
  go_ret
  exact RetE.fin hE rfl
set_option maxRecDepth 20000 in
theorem beforeFn04 (n sh : Int) (B : Nat) (w : World) (hc : w.cell? ⟨B, 0, none⟩ = some (.int .i64 sh)) (hn : 0 ≤ n ∧ n ≤ 99) (hs : 0 ≤ sh ∧ sh ≤ 99) :
    Calls Tryz.prog 167 #[.int .i64 n, .pointer (some ⟨B, 0, none⟩)] w (RetE (.int .i64 ((sh - n) % 100)) w) := by
  have HC := Lib.hid (mod04 (sh - n) w)
  go_enter Tryz.func167, Tryz.ntmps167
  go_wp2_with (go_at_call 152; refine HC.out.mono ?_; rintro e w' ⟨rfl, hE⟩)
  go_ret
  exact RetE.fin hE rfl
end Go.Proofs.YtppncdbhebgcaaaGreatDoor
namespace Go.Proofs.YtppncdbhebgcaaaGreatDoor
open Go.RowKit

/-- A block that an operation has laid. -/
def NewB (t : TypeId) (n : Nat) (k : IntKind) (v : Value) (s e : Nat) (w : World) : Prop := v = .pointer (some ⟨s, 0, none⟩) ∧ s < e ∧ Blk w s t n k (fun _ => 0)
theorem NewB.mono {t : TypeId} {n : Nat} {k : IntKind} : ∀ v s e w w', Ext w w' → NewB t n k v s e w → NewB t n k v s e w' := fun _ _ _ _ _ hE h => ⟨h.1, h.2.1, h.2.2.ext hE⟩

def readQ (q : Nat → Nat) (right : Nat) : Nat → Nat := fun c => (q c &&& right) ||| andNot (if c = 0 then 0 else q (c - 1)) right
def rdTo (M : Mt) (a : Nat) (fn : Int → Int) (q : Nat → Nat) (k : Nat) : Nat → Nat := ((M.reads.take k).filter (fun r => decide (r.1 = (a : Int)))).foldl (fun q r => readQ q (maskN (fn r.2).toNat)) q
theorem rdTo_zero (M : Mt) (a : Nat) (fn : Int → Int) (q : Nat → Nat) : rdTo M a fn q 0 = q := rfl
theorem rdTo_succ (M : Mt) (a : Nat) (fn : Int → Int) (q : Nat → Nat) {k : Nat} (h : k < M.reads.length) :
    rdTo M a fn q (k + 1) = if M.reads[k].1 = (a : Int) then readQ (rdTo M a fn q k) (maskN (fn M.reads[k].2).toNat) else rdTo M a fn q k := by
  unfold rdTo
  rw [List.take_add_one, List.getElem?_eq_getElem h, List.filter_append, List.foldl_append]
  by_cases e : M.reads[k].1 = (a : Int)
  · rw [if_pos e]
    simp [e]
  · rw [if_neg e]
    simp [e]
theorem row0 (f : Nat → Int) : rowV 24 .u64 (fun j => f (0 + j)) = rowV 24 .u64 f := rowV_congr (fun j _ => by rw [Nat.zero_add])
theorem mskF_row (c : Nat) : rowV 24 .u64 (fun j => mskF (c * 24 + j)) = rowV 24 .u64 (setF (maskN c)) :=
  rowV_congr (fun j hj => by unfold mskF; rw [show (c * 24 + j) / 24 = c by omega, show (c * 24 + j) % 24 = j by omega])
theorem andNot_zero (T : Nat) : andNot 0 T = 0 := by unfold andNot; simp

set_option maxRecDepth 20000 in
set_option maxHeartbeats 3200000 in
theorem read04 (M : Mt) (q : Nat → Nat) (b mb B g a : Nat) (t mt : TypeId) (fn : Int → Int) (p qq : Option Addr) (c d : Nat) (w : World)
    (hr : ∀ y, Ups b w y → PairsAt y qq M.reads) (hB : Blk w b t 192 .u64 (pF q)) (hm : Blk w mb mt 2400 .u64 mskF) (hmb : mb ≠ b)
    (eg : ∀ args w, (callFunc g args).run Tryz.prog w = .ok (.enter g args) w)
    (hfn : ∀ y n, Ups b w y → 0 ≤ n → n ≤ 99 → Calls Tryz.prog g #[.int .i64 n, .pointer (some ⟨B, 0, none⟩)] y (RetE (.int .i64 (fn n)) y))
    (hfb : ∀ n, 0 ≤ n → n ≤ 99 → 0 ≤ fn n ∧ fn n ≤ 99) (hsh : ∀ r ∈ M.reads, 0 ≤ r.2 ∧ r.2 ≤ 99) (hlen : M.reads.length ≤ 100) :
    Calls Tryz.prog 164 #[.pointer (some ⟨b, 0, none⟩), .agg #[.slice p M.weeks.length c, .slice qq M.reads.length d, .int .i64 M.wrong], .int .i64 a, .func (.func g) #[] #[.pointer (some ⟨B, 0, none⟩)], .pointer (some ⟨mb, 0, none⟩)] w
      (fun e w' => e = .returned (.tuple #[]) ∧ Ups b w w' ∧ Blk w' b t 192 .u64 (pF (rdTo M a fn q M.reads.length))) := by
  have HR := Lib.hid hr
  have HFN := Lib.hid hfn
  have HFB := Lib.hid hfb
  have HSH := Lib.hid hsh
  have HMB := Lib.hid hmb
  clear hr hfn hfb hsh hmb
  go_enter Tryz.func164, Tryz.ntmps164
  go_upto_region 1 with (fail)
  obtain ⟨W, hW⟩ : ∃ W, W = w.alloc (.cells #[.slice p M.weeks.length c, .slice qq M.reads.length d, .int .i64 M.wrong] 55) := ⟨_, rfl⟩
  have hs : W.heap[w.heap.size]? = some (.cells #[.slice p M.weeks.length c, .slice qq M.reads.length d, .int .i64 M.wrong] 55) := by rw [hW]; exact heap_new _ _
  have hU : Ups b w W := by rw [hW]; exact (Ups.refl b w).alloc _
  have hb : Blk W b t 192 .u64 (pF q) := by rw [hW]; exact hB.alloc _
  have hbs : b < w.heap.size := hB.lt
  have hmw : Blk W mb mt 2400 .u64 mskF := by rw [hW]; exact hm.alloc _
  rw [← hW]
  have c1 : W.cell? ⟨w.heap.size, 1, none⟩ = some (.slice qq M.reads.length d) := cell_of_heap hs 1
  have HU := Lib.hid hU
  have HB := Lib.hid hb
  have HBS := Lib.hid hbs
  have HM := Lib.hid hmw
  clear hW hs hU hb hB hbs hm hmw
  go_wp2
  go_loopw [18] (fun i wr => ∃ k : Nat, k ≤ M.reads.length ∧ i = .int .i64 k ∧ Ups b w wr ∧ Ups b W wr ∧ Blk wr b t 192 .u64 (pF (rdTo M a fn q k))) (fun i _ => M.reads.length - (intOf i).toNat)
  case atStart => exact ⟨0, by omega, rfl, HU.out, Ups.refl _ _, by rw [rdTo_zero]; exact HB.out⟩
  case round =>
    obtain ⟨k, hk, rfl, hU, hU2, hb⟩ := hrel
    have HUR := Lib.hid hU
    have HUW := Lib.hid hU2
    have HBR := Lib.hid hb
    clear hU hU2 hb c1
    by_cases hlt : k < M.reads.length
    · have hlt' : (k : Int) < (M.reads.length : Int) := by omega
      obtain ⟨rb, ro, hqq, r0, r1⟩ := HR.out wr HUR.out k hlt
      subst hqq
      have hsk := HSH.out _ (List.getElem_mem hlt)
      obtain ⟨x0, hx0⟩ : ∃ x : Int, x = M.reads[k].1 := ⟨_, rfl⟩
      obtain ⟨x1, hx1⟩ : ∃ x : Int, x = M.reads[k].2 := ⟨_, rfl⟩
      have HSU := Lib.hid (rdTo_succ M a fn q hlt)
      rw [← hx0, ← hx1] at HSU
      rw [← hx0] at r0
      rw [← hx1] at r1 hsk
      clear hx0 hx1
      go_upto_region 4 with (fail)
      obtain ⟨rc, hrc⟩ : ∃ rc, rc = wr.heap.size := ⟨_, rfl⟩
      obtain ⟨W4, hW4⟩ : ∃ W4, W4 = wr.alloc (.cells #[.int .i64 x0, .int .i64 x1] 108) := ⟨_, rfl⟩
      have hs4 : W4.heap[rc]? = some (.cells #[.int .i64 x0, .int .i64 x1] 108) := by rw [hW4, hrc]; exact heap_new _ _
      have d0 : W4.cell? ⟨rc, 0, none⟩ = some (.int .i64 x0) := cell_of_heap hs4 0
      have d1 : W4.cell? ⟨rc, 1, none⟩ = some (.int .i64 x1) := cell_of_heap hs4 1
      have hE4 : Ext wr W4 := by rw [hW4]; exact (Ext.refl wr).alloc _
      have HU4 := Lib.hid (HUR.out.trans (Ups.ext hE4))
      have HV4 := Lib.hid (HUW.out.trans (Ups.ext hE4))
      have HB4 := Lib.hid (HBR.out.ext hE4)
      have hbr := HBR.out.lt
      have hbrc : b < rc := by rw [hrc]; exact hbr
      have hsz4 : rc < W4.heap.size := lt_of_cell d0
      rw [← hrc, ← hW4]
      clear hW4 hs4 hE4 hrc hbr HBR HUR HUW r0 r1
      have HBRC := Lib.hid hbrc
      clear hbrc
      by_cases hx : x0 = (a : Int)
      · have hsu := HSU.out
        rw [if_pos hx] at hsu
        have HSV := Lib.hid hsu
        clear HSU
        have g1 : (x0 == (a : Int)) = true := by simpa using hx
        have g2 : decide (x0 = (a : Int)) = true := by simpa using hx
        clear hsu
        obtain ⟨m, hm⟩ : ∃ m : Nat, fn x1 = (m : Int) := ⟨(fn x1).toNat, by have := HFB.out x1 hsk.1 hsk.2; omega⟩
        have hm1 : (m : Int) < 100 := by have := HFB.out x1 hsk.1 hsk.2; omega
        have HF1 := Lib.hid (fun y (h : Ups b w y) => hm ▸ HFN.out y x1 h hsk.1 hsk.2)
        have hsu := HSV.out
        rw [show (fn x1).toNat = m by omega] at hsu
        have HSW := Lib.hid hsu
        clear hsu hm hsk HSV
        obtain ⟨z, hz⟩ : ∃ z, z = rdTo M a fn q k := ⟨_, rfl⟩
        rw [← hz] at HB4 HSW
        clear hz
        have HD := Lib.hid (fun y (h : Ext W4.drew y) => (h.cell d1 : y.cell? ⟨rc, 1, none⟩ = some (.int .i64 x1)))
        have HMB4 := Lib.hid (fun y (h : Ext W4.drew y) => (HM.out.ups (HV4.out.drew.trans (Ups.ext h)) HMB.out))
        have HFC := Lib.hid (fun y (h : Ext W4.drew y) => HF1.out y (HU4.out.drew.trans (Ups.ext h)))
        subst hx
        go_upto_region 5 with (fail)
        clear d0 d1 hlt'
        refine wp_region_facts 9 [[], [], [], [2], [1, 3], [0], [5, 4], [6], []] [7, 8] Ext (FL [Is (.pointer (some ⟨mb, 0, none⟩)), Is (.func (.func g) #[] #[.pointer (some ⟨B, 0, none⟩)]), Is (.pointer (some ⟨rc, 1, none⟩)), Is (.int .i64 x1), Is (.int .i64 (m : Int)), Is (.pointer (some ⟨mb, 0, none⟩)), Is (.pointer (some ⟨mb, m * 24, none⟩)), Is (.agg (rowV 24 .u64 (setF (maskN m)))), NewB 137 24 .u64]) (by kernel_rfl) (by kernel_rfl) Ext.refl (fun _ _ _ => Ext.trans) (fun _ _ => Ext.size) (FL.mono ⟨Is.mono, Is.mono, Is.mono, Is.mono, Is.mono, Is.mono, Is.mono, Is.mono, NewB.mono, trivial⟩) ⟨?_, ?_, ?_, ?_, ?_, ?_, ?_, ?_, ?_, trivial⟩ ?_
        · refine opF_step ?_
          intro ys l0 h0 w' hr hf K hK
          clear hf
          simp only [fill, Act.put, dstO, List.take_succ_cons, List.take_zero, List.setIfInBounds_toArray, List.set_cons_zero, List.set_cons_succ, List.getElem?_cons_zero, Nat.zero_add, Nat.reduceAdd] at hK ⊢
          refine OpB.mk' ?_
          go_simp
          exact hK.out _ _ rfl (Ext.refl _)
        · refine opF_step ?_
          intro ys l0 h0 w' hr hf K hK
          clear hf
          simp only [fill, Act.put, dstO, List.take_succ_cons, List.take_zero, List.setIfInBounds_toArray, List.set_cons_zero, List.set_cons_succ, List.getElem?_cons_zero, List.getElem?_cons_succ, Nat.zero_add, Nat.reduceAdd] at hK ⊢
          refine OpB.mk' ?_
          go_simp
          exact hK.out _ _ rfl (Ext.refl _)
        · refine opF_step ?_
          intro ys l0 h0 w' hr hf K hK
          clear hf
          simp only [fill, Act.put, dstO, List.take_succ_cons, List.take_zero, List.setIfInBounds_toArray, List.set_cons_zero, List.set_cons_succ, List.getElem?_cons_zero, List.getElem?_cons_succ, Nat.zero_add, Nat.reduceAdd] at hK ⊢
          refine OpB.mk' ?_
          go_simp
          exact hK.out _ _ rfl (Ext.refl _)
        · refine opF_step ?_
          intro ys l0 h0 w' hr hf K hK
          obtain ⟨f0, -⟩ := hf
          have e0 : ys 2 = _ := f0
          have s1 := HD.out w' hr
          simp only [fill, Act.put, dstO, List.take_succ_cons, List.take_zero, List.setIfInBounds_toArray, List.set_cons_zero, List.set_cons_succ, List.getElem?_cons_zero, List.getElem?_cons_succ, Nat.zero_add, Nat.reduceAdd] at hK ⊢
          simp only [e0] at hK ⊢
          clear e0 f0
          refine OpB.mk' ?_
          go_simp
          exact hK.out _ _ rfl (Ext.refl _)
        · refine opF_step ?_
          intro ys l0 h0 w' hr hf K hK
          obtain ⟨f0, f1, -⟩ := hf
          have e0 : ys 1 = _ := f0
          have e1 : ys 3 = _ := f1
          simp only [fill, Act.put, dstO, List.take_succ_cons, List.take_zero, List.setIfInBounds_toArray, List.set_cons_zero, List.set_cons_succ, List.getElem?_cons_zero, List.getElem?_cons_succ, Nat.zero_add, Nat.reduceAdd] at hK ⊢
          simp only [e0, e1] at hK ⊢
          clear e0 e1 f0 f1
          refine OpB.mk' ?_
          go_simp
          refine (HFC.out w' hr).mono ?_
          rintro e w2 ⟨rfl, hE2⟩
          exact hK.out _ _ rfl hE2
        · refine opF_step ?_
          intro ys l0 h0 w' hr hf K hK
          obtain ⟨f0, -⟩ := hf
          have e0 : ys 0 = _ := f0
          simp only [fill, Act.put, dstO, List.take_succ_cons, List.take_zero, List.setIfInBounds_toArray, List.set_cons_zero, List.set_cons_succ, List.getElem?_cons_zero, List.getElem?_cons_succ, Nat.zero_add, Nat.reduceAdd] at hK ⊢
          simp only [e0] at hK ⊢
          clear e0 f0
          refine OpB.mk' ?_
          go_simp
          exact hK.out _ _ rfl (Ext.refl _)
        · refine opF_step ?_
          intro ys l0 h0 w' hr hf K hK
          obtain ⟨f0, f1, -⟩ := hf
          have e0 : ys 5 = _ := f0
          have e1 : ys 4 = _ := f1
          simp only [fill, Act.put, dstO, List.take_succ_cons, List.take_zero, List.setIfInBounds_toArray, List.set_cons_zero, List.set_cons_succ, List.getElem?_cons_zero, List.getElem?_cons_succ, Nat.zero_add, Nat.reduceAdd] at hK ⊢
          simp only [e0, e1] at hK ⊢
          clear e0 e1 f0 f1
          refine OpB.mk' ?_
          go_simp
          exact hK.out _ _ rfl (Ext.refl _)
        · refine opF_step ?_
          intro ys l0 h0 w' hr hf K hK
          obtain ⟨f0, -⟩ := hf
          have e0 : ys 6 = _ := f0
          simp only [fill, Act.put, dstO, List.take_succ_cons, List.take_zero, List.setIfInBounds_toArray, List.set_cons_zero, List.set_cons_succ, List.getElem?_cons_zero, List.getElem?_cons_succ, Nat.zero_add, Nat.reduceAdd] at hK ⊢
          simp only [e0] at hK ⊢
          clear e0 f0
          refine OpB.mkG rfl (wp_loadB 137 _ _ Tryz.underlying137 rfl iSet rfl rfl (HMB4.out w' hr) (by omega) ?_)
          rw [mskF_row]
          exact hK.out _ _ rfl (Ext.refl _)
        · refine opF_step ?_
          intro ys l0 h0 w' hr hf K hK
          clear hf
          simp only [fill, Act.put, dstO, List.take_succ_cons, List.take_zero, List.setIfInBounds_toArray, List.set_cons_zero, List.set_cons_succ, List.getElem?_cons_zero, List.getElem?_cons_succ, Nat.zero_add, Nat.reduceAdd] at hK ⊢
          refine OpB.mk' ?_
          go_simp
          rw [zero24]
          exact hK.out _ _ ⟨rfl, by simp only [size_alloc]; omega, Blk.new' rfl _ _ _ _⟩ (Ext.alloc (Ext.refl _) _)
        intro ys l0 h0 w2 hr hf hsp
        obtain ⟨f7, f8, -⟩ := hf
        have e7 : ys 7 = _ := f7
        obtain ⟨e8, lt8, bk8⟩ := f8
        simp only [fill, Act.put, List.take_succ_cons, List.take_zero, List.setIfInBounds_toArray, List.set_cons_zero, List.set_cons_succ, Nat.zero_add, Nat.reduceAdd, List.drop_succ_cons, List.drop_zero]
        rw [e7, e8]
        have sp8 := (hsp.le 8 (by omega)).1
        generalize l0 8 = sr at bk8 lt8 sp8 ⊢
        clear e7 f7 e8 hsp
        have hsrb : b < sr := by
          have h1 := HBRC.out
          have h2 : rc < W4.drew.heap.size := hsz4
          omega
        have sz1 : w.heap.size ≤ sr := Nat.le_trans HU4.out.size sp8
        have sz2 : W.heap.size ≤ sr := Nat.le_trans HV4.out.size sp8
        refine wpList_storeB 137 _ _ iSet rfl rfl rfl rfl bk8 (by omega) ?_
        refine wpList_nil ?_
        have n5 := (bk8.sets 0 (setF (maskN m)) 24).congr (g := setF (maskN m)) (fun j hj => by rw [if_pos (by omega), Nat.sub_zero])
        have nb5 := (HB4.out.drew.ext hr).sets_ne (c := sr) (o := 0) (vs := (rowV 24 .u64 (setF (maskN m))).toList) (by omega)
        have u5 := (HU4.out.drew.trans (Ups.ext hr)).ups ((Ups.refl sr w2).setCells 0 (rowV 24 .u64 (setF (maskN m))).toList) sz1
        have v5 := (HV4.out.drew.trans (Ups.ext hr)).ups ((Ups.refl sr w2).setCells 0 (rowV 24 .u64 (setF (maskN m))).toList) sz2
        generalize World.setCells w2 _ _ _ = W5 at n5 nb5 u5 v5 ⊢
        have N5 := Lib.hid n5
        have NB5 := Lib.hid nb5
        have U5 := Lib.hid u5
        have V5 := Lib.hid v5
        have HSR := Lib.hid (show b < sr ∧ w.heap.size ≤ sr ∧ W.heap.size ≤ sr from ⟨hsrb, sz1, sz2⟩)
        obtain ⟨T, hT⟩ : ∃ T, T = maskN m := ⟨_, rfl⟩
        rw [← hT] at N5 HSW
        clear lt8 sp8 hsrb sz1 sz2 hsz4 n5 nb5 u5 v5 hr bk8 HD HMB4 HFC HF1 HB4 HU4 HV4 hT
        go_wp2
        go_loopw [13] (fun x wr2 => ∃ e : Nat, e ≤ 8 ∧ x = .int .i64 ((e : Int) - 1) ∧ Ups b w wr2 ∧ Ups b W wr2 ∧ Blk wr2 b t 192 .u64 (pF (fun c => if e ≤ c then readQ z T c else z c)) ∧ Blk wr2 sr 137 24 .u64 (setF T)) (fun x _ => (intOf x + 1).toNat)
        case atStart => exact ⟨8, by omega, rfl, U5.out, V5.out, NB5.out.congr (fun j hj => by unfold pF; simp only; rw [if_neg (by omega)]), N5.out⟩
        case round =>
          obtain ⟨e, he, rfl, hu, hv, hb, hn⟩ := hrel
          have HUA := Lib.hid hu
          have HVA := Lib.hid hv
          have HBA := Lib.hid hb
          have HNA := Lib.hid hn
          clear hu hv hb hn U5 V5 NB5 N5
          by_cases hel : 1 ≤ e
          · obtain ⟨i, rfl⟩ : ∃ i, e = i + 1 := ⟨e - 1, by omega⟩
            have e1 : ((i + 1 : Nat) : Int) - 1 = (i : Int) := by omega
            rw [e1]
            have hi8 : (i : Int) < 8 := by omega
            have hi8' : i < 8 := by omega
            have hi0 : (0 : Int) ≤ (i : Int) := by omega
            obtain ⟨y, hy⟩ : ∃ y : Nat → Nat, y = fun c => if i + 1 ≤ c then readQ z T c else z c := ⟨_, rfl⟩
            rw [← hy] at HBA
            have HY := Lib.hid hy
            have HYI := Lib.hid (show y i = z i from by rw [hy]; exact if_neg (by omega))
            clear hy e1
            go_upto_region 9 with (fail)
            refine wp_region_facts 8 [[], [], [0], [2, 1], [3], [], [4, 5], []] [6, 7] Ext (FL [Is (.pointer (some ⟨b, 0, none⟩)), Is (.int .i64 (i : Int)), Is (.pointer (some ⟨b, 0, none⟩)), Is (.pointer (some ⟨b, i * 24, none⟩)), Is (.agg (rowV 24 .u64 (setF (y i)))), Is (.agg (rowV 24 .u64 (setF T))), Is (.agg (rowV 24 .u64 (setF (y i &&& T)))), NewB 137 24 .u64]) (by kernel_rfl) (by kernel_rfl) Ext.refl (fun _ _ _ => Ext.trans) (fun _ _ => Ext.size) (FL.mono ⟨Is.mono, Is.mono, Is.mono, Is.mono, Is.mono, Is.mono, Is.mono, NewB.mono, trivial⟩) ⟨?_, ?_, ?_, ?_, ?_, ?_, ?_, ?_, trivial⟩ ?_
            · refine opF_step ?_
              intro ys l0 h0 w' hr hf K hK
              clear hf
              simp only [fill, Act.put, dstO, List.take_succ_cons, List.take_zero, List.setIfInBounds_toArray, List.set_cons_zero, List.set_cons_succ, List.getElem?_cons_zero, Nat.zero_add, Nat.reduceAdd] at hK ⊢
              refine OpB.mk' ?_
              go_simp
              exact hK.out _ _ rfl (Ext.refl _)
            · refine opF_step ?_
              intro ys l0 h0 w' hr hf K hK
              clear hf
              simp only [fill, Act.put, dstO, List.take_succ_cons, List.take_zero, List.setIfInBounds_toArray, List.set_cons_zero, List.set_cons_succ, List.getElem?_cons_zero, List.getElem?_cons_succ, Nat.zero_add, Nat.reduceAdd] at hK ⊢
              refine OpB.mk' ?_
              go_simp
              exact hK.out _ _ rfl (Ext.refl _)
            · refine opF_step ?_
              intro ys l0 h0 w' hr hf K hK
              obtain ⟨f0, -⟩ := hf
              have e0 : ys 0 = _ := f0
              simp only [fill, Act.put, dstO, List.take_succ_cons, List.take_zero, List.setIfInBounds_toArray, List.set_cons_zero, List.set_cons_succ, List.getElem?_cons_zero, List.getElem?_cons_succ, Nat.zero_add, Nat.reduceAdd] at hK ⊢
              simp only [e0] at hK ⊢
              clear e0 f0
              refine OpB.mk' ?_
              go_simp
              exact hK.out _ _ rfl (Ext.refl _)
            · refine opF_step ?_
              intro ys l0 h0 w' hr hf K hK
              obtain ⟨f0, f1, -⟩ := hf
              have e0 : ys 2 = _ := f0
              have e1 : ys 1 = _ := f1
              simp only [fill, Act.put, dstO, List.take_succ_cons, List.take_zero, List.setIfInBounds_toArray, List.set_cons_zero, List.set_cons_succ, List.getElem?_cons_zero, List.getElem?_cons_succ, Nat.zero_add, Nat.reduceAdd] at hK ⊢
              simp only [e0, e1] at hK ⊢
              clear e0 e1 f0 f1
              refine OpB.mk' ?_
              go_simp
              exact hK.out _ _ rfl (Ext.refl _)
            · refine opF_step ?_
              intro ys l0 h0 w' hr hf K hK
              obtain ⟨f0, -⟩ := hf
              have e0 : ys 3 = _ := f0
              simp only [fill, Act.put, dstO, List.take_succ_cons, List.take_zero, List.setIfInBounds_toArray, List.set_cons_zero, List.set_cons_succ, List.getElem?_cons_zero, List.getElem?_cons_succ, Nat.zero_add, Nat.reduceAdd] at hK ⊢
              simp only [e0] at hK ⊢
              clear e0 f0
              refine OpB.mkG rfl (wp_loadB 137 _ _ Tryz.underlying137 rfl iSet rfl rfl (HBA.out.drew.ext hr) (by omega) ?_)
              rw [pF_row]
              exact hK.out _ _ rfl (Ext.refl _)
            · refine opF_step ?_
              intro ys l0 h0 w' hr hf K hK
              clear hf
              simp only [fill, Act.put, dstO, List.take_succ_cons, List.take_zero, List.setIfInBounds_toArray, List.set_cons_zero, List.set_cons_succ, List.getElem?_cons_zero, List.getElem?_cons_succ, Nat.zero_add, Nat.reduceAdd] at hK ⊢
              refine OpB.mkG rfl (wp_loadB 137 _ _ Tryz.underlying137 rfl iSet rfl rfl (HNA.out.drew.ext hr) (by omega) ?_)
              rw [row0]
              exact hK.out _ _ rfl (Ext.refl _)
            · refine opF_step ?_
              intro ys l0 h0 w' hr hf K hK
              obtain ⟨f0, f1, -⟩ := hf
              have e0 : ys 4 = _ := f0
              have e1 : ys 5 = _ := f1
              simp only [fill, Act.put, dstO, List.take_succ_cons, List.take_zero, List.setIfInBounds_toArray, List.set_cons_zero, List.set_cons_succ, List.getElem?_cons_zero, List.getElem?_cons_succ, Nat.zero_add, Nat.reduceAdd] at hK ⊢
              simp only [e0, e1] at hK ⊢
              clear e0 e1 f0 f1
              refine OpB.mk' ?_
              go_simp
              refine (andTS04 (y i) T w').mono ?_
              rintro e w2 ⟨rfl, hE2⟩
              exact hK.out _ _ rfl hE2
            · refine opF_step ?_
              intro ys l0 h0 w' hr hf K hK
              clear hf
              simp only [fill, Act.put, dstO, List.take_succ_cons, List.take_zero, List.setIfInBounds_toArray, List.set_cons_zero, List.set_cons_succ, List.getElem?_cons_zero, List.getElem?_cons_succ, Nat.zero_add, Nat.reduceAdd] at hK ⊢
              refine OpB.mk' ?_
              go_simp
              rw [zero24]
              exact hK.out _ _ ⟨rfl, by simp only [size_alloc]; omega, Blk.new' rfl _ _ _ _⟩ (Ext.alloc (Ext.refl _) _)
            intro ys l0 h0 w2 hr hf hsp
            obtain ⟨f6, f7, -⟩ := hf
            have e6 : ys 6 = _ := f6
            obtain ⟨e7, lt7, bk7⟩ := f7
            simp only [fill, Act.put, List.take_succ_cons, List.take_zero, List.setIfInBounds_toArray, List.set_cons_zero, List.set_cons_succ, Nat.zero_add, Nat.reduceAdd, List.drop_succ_cons, List.drop_zero]
            rw [e6, e7]
            have sp7 := (hsp.le 7 (by omega)).1
            generalize l0 7 = s2 at bk7 lt7 sp7 ⊢
            clear e6 f6 e7 hsp
            refine wpList_storeB 137 _ _ iSet rfl rfl rfl rfl bk7 (by omega) ?_
            refine wpList_nil ?_
            have sz0 : sr < s2 := Nat.lt_of_lt_of_le HNA.out.lt sp7
            have n6 := (bk7.sets 0 (setF (y i &&& T)) 24).congr (g := setF (y i &&& T)) (fun j hj => by rw [if_pos (by omega), Nat.sub_zero])
            have nb6 := (HBA.out.drew.ext hr).sets_ne (c := s2) (o := 0) (vs := (rowV 24 .u64 (setF (y i &&& T))).toList) (by have := HSR.out; omega)
            have nn6 := (HNA.out.drew.ext hr).sets_ne (c := s2) (o := 0) (vs := (rowV 24 .u64 (setF (y i &&& T))).toList) (by omega)
            have u6 := (HUA.out.drew.trans (Ups.ext hr)).ups ((Ups.refl s2 w2).setCells 0 (rowV 24 .u64 (setF (y i &&& T))).toList) (by have := HSR.out; omega)
            have v6 := (HVA.out.drew.trans (Ups.ext hr)).ups ((Ups.refl s2 w2).setCells 0 (rowV 24 .u64 (setF (y i &&& T))).toList) (by have := HSR.out; omega)
            rw [HYI.out] at n6 nb6 nn6 u6 v6 ⊢
            generalize World.setCells w2 _ _ _ = W6 at n6 nb6 nn6 u6 v6 ⊢
            have N6 := Lib.hid n6
            have NB6 := Lib.hid nb6
            have NN6 := Lib.hid nn6
            have U6 := Lib.hid u6
            have V6 := Lib.hid v6
            have HS2 := Lib.hid sz0
            clear n6 nb6 nn6 u6 v6 sz0 bk7 sp7 lt7 hr HUA HVA HBA HNA
            by_cases hi1 : 0 < i
            · obtain ⟨i1, hi2⟩ : ∃ i1, i = i1 + 1 := ⟨i - 1, by omega⟩
              have g3 : decide ((0 : Int) < (i : Int)) = true := decide_eq_true (by omega)
              have g4 : decide (0 < i) = true := decide_eq_true hi1
              have s3 : (i : Int) - 1 = (i1 : Int) := by omega
              have s4 : IntKind.i64.wrap (i1 : Int) = (i1 : Int) := IntWalk.i64_in _ (by omega)
              have hi18 : (i1 : Int) < 8 := by omega
              have hi18' : i1 < 8 := by omega
              have HYJ := Lib.hid (show y i1 = z (i - 1) from by rw [HY.out, show i1 = i - 1 by omega]; exact if_neg (by omega))
              clear hi2
              go_upto_region 11 with (fail)
              refine wp_region_facts 10 [[], [], [], [2], [1], [4, 3], [5], [], [6, 7], [0, 8]] [9] Ext (FL [Is (.agg (rowV 24 .u64 (setF (z i &&& T)))), Is (.pointer (some ⟨b, 0, none⟩)), Is (.int .i64 (i : Int)), Is (.int .i64 (i1 : Int)), Is (.pointer (some ⟨b, 0, none⟩)), Is (.pointer (some ⟨b, i1 * 24, none⟩)), Is (.agg (rowV 24 .u64 (setF (y i1)))), Is (.agg (rowV 24 .u64 (setF T))), Is (.agg (rowV 24 .u64 (setF (andNot (y i1) T)))), Is (.agg (rowV 24 .u64 (setF ((z i &&& T) ||| andNot (y i1) T))))]) (by kernel_rfl) (by kernel_rfl) Ext.refl (fun _ _ _ => Ext.trans) (fun _ _ => Ext.size) (FL.mono ⟨Is.mono, Is.mono, Is.mono, Is.mono, Is.mono, Is.mono, Is.mono, Is.mono, Is.mono, Is.mono, trivial⟩) ⟨?_, ?_, ?_, ?_, ?_, ?_, ?_, ?_, ?_, ?_, trivial⟩ ?_
              · refine opF_step ?_
                intro ys l0 h0 w' hr hf K hK
                clear hf
                simp only [fill, Act.put, dstO, List.take_succ_cons, List.take_zero, List.setIfInBounds_toArray, List.set_cons_zero, List.set_cons_succ, List.getElem?_cons_zero, Nat.zero_add, Nat.reduceAdd] at hK ⊢
                refine OpB.mkG rfl (wp_loadB 137 _ _ Tryz.underlying137 rfl iSet rfl rfl (N6.out.drew.ext hr) (by omega) ?_)
                rw [row0]
                exact hK.out _ _ rfl (Ext.refl _)
              · refine opF_step ?_
                intro ys l0 h0 w' hr hf K hK
                clear hf
                simp only [fill, Act.put, dstO, List.take_succ_cons, List.take_zero, List.setIfInBounds_toArray, List.set_cons_zero, List.set_cons_succ, List.getElem?_cons_zero, List.getElem?_cons_succ, Nat.zero_add, Nat.reduceAdd] at hK ⊢
                refine OpB.mk' ?_
                go_simp
                exact hK.out _ _ rfl (Ext.refl _)
              · refine opF_step ?_
                intro ys l0 h0 w' hr hf K hK
                clear hf
                simp only [fill, Act.put, dstO, List.take_succ_cons, List.take_zero, List.setIfInBounds_toArray, List.set_cons_zero, List.set_cons_succ, List.getElem?_cons_zero, List.getElem?_cons_succ, Nat.zero_add, Nat.reduceAdd] at hK ⊢
                refine OpB.mk' ?_
                go_simp
                exact hK.out _ _ rfl (Ext.refl _)
              · refine opF_step ?_
                intro ys l0 h0 w' hr hf K hK
                obtain ⟨f0, -⟩ := hf
                have e0 : ys 2 = _ := f0
                simp only [fill, Act.put, dstO, List.take_succ_cons, List.take_zero, List.setIfInBounds_toArray, List.set_cons_zero, List.set_cons_succ, List.getElem?_cons_zero, List.getElem?_cons_succ, Nat.zero_add, Nat.reduceAdd] at hK ⊢
                simp only [e0] at hK ⊢
                clear e0 f0
                refine OpB.mk' ?_
                go_simp
                exact hK.out _ _ rfl (Ext.refl _)
              · refine opF_step ?_
                intro ys l0 h0 w' hr hf K hK
                obtain ⟨f0, -⟩ := hf
                have e0 : ys 1 = _ := f0
                simp only [fill, Act.put, dstO, List.take_succ_cons, List.take_zero, List.setIfInBounds_toArray, List.set_cons_zero, List.set_cons_succ, List.getElem?_cons_zero, List.getElem?_cons_succ, Nat.zero_add, Nat.reduceAdd] at hK ⊢
                simp only [e0] at hK ⊢
                clear e0 f0
                refine OpB.mk' ?_
                go_simp
                exact hK.out _ _ rfl (Ext.refl _)
              · refine opF_step ?_
                intro ys l0 h0 w' hr hf K hK
                obtain ⟨f0, f1, -⟩ := hf
                have e0 : ys 4 = _ := f0
                have e1 : ys 3 = _ := f1
                simp only [fill, Act.put, dstO, List.take_succ_cons, List.take_zero, List.setIfInBounds_toArray, List.set_cons_zero, List.set_cons_succ, List.getElem?_cons_zero, List.getElem?_cons_succ, Nat.zero_add, Nat.reduceAdd] at hK ⊢
                simp only [e0, e1] at hK ⊢
                clear e0 e1 f0 f1
                refine OpB.mk' ?_
                go_simp
                exact hK.out _ _ rfl (Ext.refl _)
              · refine opF_step ?_
                intro ys l0 h0 w' hr hf K hK
                obtain ⟨f0, -⟩ := hf
                have e0 : ys 5 = _ := f0
                simp only [fill, Act.put, dstO, List.take_succ_cons, List.take_zero, List.setIfInBounds_toArray, List.set_cons_zero, List.set_cons_succ, List.getElem?_cons_zero, List.getElem?_cons_succ, Nat.zero_add, Nat.reduceAdd] at hK ⊢
                simp only [e0] at hK ⊢
                clear e0 f0
                refine OpB.mkG rfl (wp_loadB 137 _ _ Tryz.underlying137 rfl iSet rfl rfl (NB6.out.drew.ext hr) (by omega) ?_)
                rw [pF_row]
                exact hK.out _ _ rfl (Ext.refl _)
              · refine opF_step ?_
                intro ys l0 h0 w' hr hf K hK
                clear hf
                simp only [fill, Act.put, dstO, List.take_succ_cons, List.take_zero, List.setIfInBounds_toArray, List.set_cons_zero, List.set_cons_succ, List.getElem?_cons_zero, List.getElem?_cons_succ, Nat.zero_add, Nat.reduceAdd] at hK ⊢
                refine OpB.mkG rfl (wp_loadB 137 _ _ Tryz.underlying137 rfl iSet rfl rfl (NN6.out.drew.ext hr) (by omega) ?_)
                rw [row0]
                exact hK.out _ _ rfl (Ext.refl _)
              · refine opF_step ?_
                intro ys l0 h0 w' hr hf K hK
                obtain ⟨f0, f1, -⟩ := hf
                have e0 : ys 6 = _ := f0
                have e1 : ys 7 = _ := f1
                simp only [fill, Act.put, dstO, List.take_succ_cons, List.take_zero, List.setIfInBounds_toArray, List.set_cons_zero, List.set_cons_succ, List.getElem?_cons_zero, List.getElem?_cons_succ, Nat.zero_add, Nat.reduceAdd] at hK ⊢
                simp only [e0, e1] at hK ⊢
                clear e0 e1 f0 f1
                refine OpB.mk' ?_
                go_simp
                refine (andFS04 (y i1) T w').mono ?_
                rintro e w2 ⟨rfl, hE2⟩
                exact hK.out _ _ rfl hE2
              · refine opF_step ?_
                intro ys l0 h0 w' hr hf K hK
                obtain ⟨f0, f1, -⟩ := hf
                have e0 : ys 0 = _ := f0
                have e1 : ys 8 = _ := f1
                simp only [fill, Act.put, dstO, List.take_succ_cons, List.take_zero, List.setIfInBounds_toArray, List.set_cons_zero, List.set_cons_succ, List.getElem?_cons_zero, List.getElem?_cons_succ, Nat.zero_add, Nat.reduceAdd] at hK ⊢
                simp only [e0, e1] at hK ⊢
                clear e0 e1 f0 f1
                refine OpB.mk' ?_
                go_simp
                refine (orS04 (z i &&& T) (andNot (y i1) T) w').mono ?_
                rintro e w2 ⟨rfl, hE2⟩
                exact hK.out _ _ rfl hE2
              intro ys l0 h0 w2 hr hf hsp
              obtain ⟨f9, -⟩ := hf
              have e9 : ys 9 = _ := f9
              simp only [fill, Act.put, List.take_succ_cons, List.take_zero, List.setIfInBounds_toArray, List.set_cons_zero, List.set_cons_succ, Nat.zero_add, Nat.reduceAdd, List.drop_succ_cons, List.drop_zero]
              rw [e9]
              clear e9 f9 hsp
              have nb := N6.out.drew.ext hr
              refine wpList_storeB 137 _ _ iSet rfl rfl rfl rfl nb (by omega) ?_
              refine wpList_nil ?_
              have hval : (z i &&& T) ||| andNot (y i1) T = readQ z T i := by unfold readQ; rw [if_neg (by omega), HYJ.out]
              rw [hval]
              have n7 := (nb.sets 0 (setF (readQ z T i)) 24).congr (g := setF (readQ z T i)) (fun j hj => by rw [if_pos (by omega), Nat.sub_zero])
              have nb7 := (NB6.out.drew.ext hr).sets_ne (c := s2) (o := 0) (vs := (rowV 24 .u64 (setF (readQ z T i))).toList) (by have := HSR.out; have := HS2.out; omega)
              have nn7 := (NN6.out.drew.ext hr).sets_ne (c := s2) (o := 0) (vs := (rowV 24 .u64 (setF (readQ z T i))).toList) (by have := HS2.out; omega)
              have u7 := (U6.out.drew.trans (Ups.ext hr)).ups ((Ups.refl s2 w2).setCells 0 (rowV 24 .u64 (setF (readQ z T i))).toList) (by have := HSR.out; have := HS2.out; omega)
              have v7 := (V6.out.drew.trans (Ups.ext hr)).ups ((Ups.refl s2 w2).setCells 0 (rowV 24 .u64 (setF (readQ z T i))).toList) (by have := HSR.out; have := HS2.out; omega)
              generalize World.setCells w2 _ _ _ = W7 at n7 nb7 nn7 u7 v7 ⊢
              have N7 := Lib.hid n7
              have NB7 := Lib.hid nb7
              have NN7 := Lib.hid nn7
              have U7 := Lib.hid u7
              have V7 := Lib.hid v7
              clear n7 nb7 nn7 u7 v7 hr nb hval N6 NB6 NN6 U6 V6 HYJ
              go_upto_region 12 with (fail)
              refine wp_region_facts 5 [[], [], [], [0], [3, 1]] [2, 4] Ext (FL [Is (.pointer (some ⟨b, 0, none⟩)), Is (.int .i64 (i : Int)), Is (.agg (rowV 24 .u64 (setF (readQ z T i)))), Is (.pointer (some ⟨b, 0, none⟩)), Is (.pointer (some ⟨b, i * 24, none⟩))]) (by kernel_rfl) (by kernel_rfl) Ext.refl (fun _ _ _ => Ext.trans) (fun _ _ => Ext.size) (FL.mono ⟨Is.mono, Is.mono, Is.mono, Is.mono, Is.mono, trivial⟩) ⟨?_, ?_, ?_, ?_, ?_, trivial⟩ ?_
              · refine opF_step ?_
                intro ys l0 h0 w' hr hf K hK
                clear hf
                simp only [fill, Act.put, dstO, List.take_succ_cons, List.take_zero, List.setIfInBounds_toArray, List.set_cons_zero, List.set_cons_succ, List.getElem?_cons_zero, Nat.zero_add, Nat.reduceAdd] at hK ⊢
                refine OpB.mk' ?_
                go_simp
                exact hK.out _ _ rfl (Ext.refl _)
              · refine opF_step ?_
                intro ys l0 h0 w' hr hf K hK
                clear hf
                simp only [fill, Act.put, dstO, List.take_succ_cons, List.take_zero, List.setIfInBounds_toArray, List.set_cons_zero, List.set_cons_succ, List.getElem?_cons_zero, List.getElem?_cons_succ, Nat.zero_add, Nat.reduceAdd] at hK ⊢
                refine OpB.mk' ?_
                go_simp
                exact hK.out _ _ rfl (Ext.refl _)
              · refine opF_step ?_
                intro ys l0 h0 w' hr hf K hK
                clear hf
                simp only [fill, Act.put, dstO, List.take_succ_cons, List.take_zero, List.setIfInBounds_toArray, List.set_cons_zero, List.set_cons_succ, List.getElem?_cons_zero, List.getElem?_cons_succ, Nat.zero_add, Nat.reduceAdd] at hK ⊢
                refine OpB.mkG rfl (wp_loadB 137 _ _ Tryz.underlying137 rfl iSet rfl rfl (N7.out.drew.ext hr) (by omega) ?_)
                rw [row0]
                exact hK.out _ _ rfl (Ext.refl _)
              · refine opF_step ?_
                intro ys l0 h0 w' hr hf K hK
                obtain ⟨f0, -⟩ := hf
                have e0 : ys 0 = _ := f0
                simp only [fill, Act.put, dstO, List.take_succ_cons, List.take_zero, List.setIfInBounds_toArray, List.set_cons_zero, List.set_cons_succ, List.getElem?_cons_zero, List.getElem?_cons_succ, Nat.zero_add, Nat.reduceAdd] at hK ⊢
                simp only [e0] at hK ⊢
                clear e0 f0
                refine OpB.mk' ?_
                go_simp
                exact hK.out _ _ rfl (Ext.refl _)
              · refine opF_step ?_
                intro ys l0 h0 w' hr hf K hK
                obtain ⟨f0, f1, -⟩ := hf
                have e0 : ys 3 = _ := f0
                have e1 : ys 1 = _ := f1
                simp only [fill, Act.put, dstO, List.take_succ_cons, List.take_zero, List.setIfInBounds_toArray, List.set_cons_zero, List.set_cons_succ, List.getElem?_cons_zero, List.getElem?_cons_succ, Nat.zero_add, Nat.reduceAdd] at hK ⊢
                simp only [e0, e1] at hK ⊢
                clear e0 e1 f0 f1
                refine OpB.mk' ?_
                go_simp
                exact hK.out _ _ rfl (Ext.refl _)
              intro ys l0 h0 w2 hr hf hsp
              obtain ⟨f2, f4, -⟩ := hf
              have e2 : ys 2 = _ := f2
              have e4 : ys 4 = _ := f4
              simp only [fill, Act.put, List.take_succ_cons, List.take_zero, List.setIfInBounds_toArray, List.set_cons_zero, List.set_cons_succ, Nat.zero_add, Nat.reduceAdd, List.drop_succ_cons, List.drop_zero]
              rw [e2, e4]
              clear e2 f2 e4 f4 hsp
              have nb := NB7.out.drew.ext hr
              refine wpList_storeB 137 _ _ iSet rfl rfl rfl rfl nb (by omega) ?_
              refine wpList_nil ?_
              have n8 := (nb.sets (i * 24) (setF (readQ z T i)) 24).congr (g := pF (fun c => if i ≤ c then readQ z T c else z c)) (fun j hj => by
                unfold pF
                rw [HY.out]
                by_cases e : i * 24 ≤ j ∧ j < i * 24 + 24
                · rw [if_pos e]
                  simp only
                  rw [show j / 24 = i by omega, if_pos (Nat.le_refl _), show j % 24 = j - i * 24 by omega]
                · rw [if_neg e]
                  simp only
                  by_cases e2 : i + 1 ≤ j / 24
                  · rw [if_pos e2, if_pos (by omega)]
                  · rw [if_neg e2, if_neg (by omega)])
              have nn8 := (NN7.out.drew.ext hr).sets_ne (c := b) (o := i * 24) (vs := (rowV 24 .u64 (setF (readQ z T i))).toList) (by have := HSR.out; omega)
              have u8' := (U7.out.drew.trans (Ups.ext hr)).setCells (i * 24) (rowV 24 .u64 (setF (readQ z T i))).toList
              have v8' := (V7.out.drew.trans (Ups.ext hr)).setCells (i * 24) (rowV 24 .u64 (setF (readQ z T i))).toList
              generalize World.setCells w2 _ _ _ = W8 at n8 nn8 u8' v8' ⊢
              have N8 := Lib.hid n8
              have NN8 := Lib.hid nn8
              have U8 := Lib.hid u8'
              have V8 := Lib.hid v8'
              clear n8 nn8 u8' v8' hr nb N7 NB7 NN7 U7 V7
              go_wp2
              go_roundw
              case rel => exact ⟨i, by omega, by first | rfl | rw [s3] | simp, U8.out, V8.out, N8.out, NN8.out⟩
              case measure => simp [intOf]; try omega
            · obtain rfl : i = 0 := by omega
              have hval : z 0 &&& T = readQ z T 0 := by unfold readQ; rw [if_pos rfl, andNot_zero, Nat.or_zero]
              rw [hval] at N6
              have N7 := N6
              have NB7 := NB6
              have NN7 := NN6
              have U7 := U6
              have V7 := V6
              clear hval N6 NB6 NN6 U6 V6
              go_upto_region 12 with (fail)
              refine wp_region_facts 5 [[], [], [], [0], [3, 1]] [2, 4] Ext (FL [Is (.pointer (some ⟨b, 0, none⟩)), Is (.int .i64 0), Is (.agg (rowV 24 .u64 (setF (readQ z T 0)))), Is (.pointer (some ⟨b, 0, none⟩)), Is (.pointer (some ⟨b, 0, none⟩))]) (by kernel_rfl) (by kernel_rfl) Ext.refl (fun _ _ _ => Ext.trans) (fun _ _ => Ext.size) (FL.mono ⟨Is.mono, Is.mono, Is.mono, Is.mono, Is.mono, trivial⟩) ⟨?_, ?_, ?_, ?_, ?_, trivial⟩ ?_
              · refine opF_step ?_
                intro ys l0 h0 w' hr hf K hK
                clear hf
                simp only [fill, Act.put, dstO, List.take_succ_cons, List.take_zero, List.setIfInBounds_toArray, List.set_cons_zero, List.set_cons_succ, List.getElem?_cons_zero, Nat.zero_add, Nat.reduceAdd] at hK ⊢
                refine OpB.mk' ?_
                go_simp
                exact hK.out _ _ rfl (Ext.refl _)
              · refine opF_step ?_
                intro ys l0 h0 w' hr hf K hK
                clear hf
                simp only [fill, Act.put, dstO, List.take_succ_cons, List.take_zero, List.setIfInBounds_toArray, List.set_cons_zero, List.set_cons_succ, List.getElem?_cons_zero, List.getElem?_cons_succ, Nat.zero_add, Nat.reduceAdd] at hK ⊢
                refine OpB.mk' ?_
                go_simp
                exact hK.out _ _ rfl (Ext.refl _)
              · refine opF_step ?_
                intro ys l0 h0 w' hr hf K hK
                clear hf
                simp only [fill, Act.put, dstO, List.take_succ_cons, List.take_zero, List.setIfInBounds_toArray, List.set_cons_zero, List.set_cons_succ, List.getElem?_cons_zero, List.getElem?_cons_succ, Nat.zero_add, Nat.reduceAdd] at hK ⊢
                refine OpB.mkG rfl (wp_loadB 137 _ _ Tryz.underlying137 rfl iSet rfl rfl (N7.out.drew.ext hr) (by omega) ?_)
                rw [row0]
                exact hK.out _ _ rfl (Ext.refl _)
              · refine opF_step ?_
                intro ys l0 h0 w' hr hf K hK
                obtain ⟨f0, -⟩ := hf
                have e0 : ys 0 = _ := f0
                simp only [fill, Act.put, dstO, List.take_succ_cons, List.take_zero, List.setIfInBounds_toArray, List.set_cons_zero, List.set_cons_succ, List.getElem?_cons_zero, List.getElem?_cons_succ, Nat.zero_add, Nat.reduceAdd] at hK ⊢
                simp only [e0] at hK ⊢
                clear e0 f0
                refine OpB.mk' ?_
                go_simp
                exact hK.out _ _ rfl (Ext.refl _)
              · refine opF_step ?_
                intro ys l0 h0 w' hr hf K hK
                obtain ⟨f0, f1, -⟩ := hf
                have e0 : ys 3 = _ := f0
                have e1 : ys 1 = _ := f1
                simp only [fill, Act.put, dstO, List.take_succ_cons, List.take_zero, List.setIfInBounds_toArray, List.set_cons_zero, List.set_cons_succ, List.getElem?_cons_zero, List.getElem?_cons_succ, Nat.zero_add, Nat.reduceAdd] at hK ⊢
                simp only [e0, e1] at hK ⊢
                clear e0 e1 f0 f1
                refine OpB.mk' ?_
                go_simp
                exact hK.out _ _ rfl (Ext.refl _)
              intro ys l0 h0 w2 hr hf hsp
              obtain ⟨f2, f4, -⟩ := hf
              have e2 : ys 2 = _ := f2
              have e4 : ys 4 = _ := f4
              simp only [fill, Act.put, List.take_succ_cons, List.take_zero, List.setIfInBounds_toArray, List.set_cons_zero, List.set_cons_succ, Nat.zero_add, Nat.reduceAdd, List.drop_succ_cons, List.drop_zero]
              rw [e2, e4]
              clear e2 f2 e4 f4 hsp
              have nb := NB7.out.drew.ext hr
              refine wpList_storeB 137 _ _ iSet rfl rfl rfl rfl nb (by omega) ?_
              refine wpList_nil ?_
              have n8 := (nb.sets (0) (setF (readQ z T 0)) 24).congr (g := pF (fun c => if 0 ≤ c then readQ z T c else z c)) (fun j hj => by
                unfold pF
                rw [HY.out]
                by_cases e : 0 ≤ j ∧ j < 0 + 24
                · rw [if_pos e]
                  simp only
                  rw [show j / 24 = 0 by omega, if_pos (Nat.le_refl _), show j % 24 = j - 0 by omega]
                · rw [if_neg e]
                  simp only
                  by_cases e2 : 1 ≤ j / 24
                  · rw [if_pos e2, if_pos (by omega)]
                  · rw [if_neg e2, if_neg (by omega)])
              have nn8 := (NN7.out.drew.ext hr).sets_ne (c := b) (o := 0) (vs := (rowV 24 .u64 (setF (readQ z T 0))).toList) (by have := HSR.out; omega)
              have u8' := (U7.out.drew.trans (Ups.ext hr)).setCells (0) (rowV 24 .u64 (setF (readQ z T 0))).toList
              have v8' := (V7.out.drew.trans (Ups.ext hr)).setCells (0) (rowV 24 .u64 (setF (readQ z T 0))).toList
              generalize World.setCells w2 _ _ _ = W8 at n8 nn8 u8' v8' ⊢
              have N8 := Lib.hid n8
              have NN8 := Lib.hid nn8
              have U8 := Lib.hid u8'
              have V8 := Lib.hid v8'
              clear n8 nn8 u8' v8' hr nb N7 NB7 NN7 U7 V7
              go_wp2
              go_roundw
              case rel => exact ⟨0, by omega, by first | rfl | rw [s3] | simp, U8.out, V8.out, N8.out, NN8.out⟩
              case measure => simp [intOf]; try omega
          · obtain rfl : e = 0 := by omega
            have hb := HBA.out.congr (g := pF (rdTo M a fn q (k + 1))) (fun j hj => by rw [HSW.out]; unfold pF; simp only; rw [if_pos (Nat.zero_le _)])
            have HB9 := Lib.hid hb
            clear hb HBA HNA HSW
            go_wp2
            go_roundw
            case rel => exact ⟨k + 1, by omega, by simp, HUA.out, HVA.out, HB9.out⟩
            case measure => simp [intOf]; omega
      · have hsu := HSU.out
        rw [if_neg hx] at hsu
        have g1 : (x0 == (a : Int)) = false := by simpa using hx
        have g2 : decide (x0 = (a : Int)) = false := by simpa using hx
        have HB9 := Lib.hid (show Blk W4 b t 192 .u64 (pF (rdTo M a fn q (k + 1))) from by rw [hsu]; exact HB4.out)
        clear hsu HB4 HSU
        go_wp2
        go_roundw
        case rel => exact ⟨k + 1, by omega, by simp, HU4.out, HV4.out, HB9.out⟩
        case measure => simp [intOf]; omega
    · obtain rfl : k = M.reads.length := by omega
      go_wp2
      go_end0
      exact ⟨rfl, HUR.out, HBR.out⟩
end Go.Proofs.YtppncdbhebgcaaaGreatDoor
namespace Go.Proofs.YtppncdbhebgcaaaGreatDoor
open Go.RowKit

theorem iPaths : (Tryz.prog.info? 204).map (·.size) = some 192 := by kernel_rfl
theorem zero192 : Tryz.zeroCells204 = rowV 192 .u64 (fun _ => 0) := by kernel_rfl

theorem heap_at0 {w W : World} {o : Obj} (h : Ext (w.alloc o) W) : W.heap[w.heap.size]? = some o := (h.block _ (by simp)).trans (heap_new w o)
theorem heap_at1 {w W : World} {o u : Obj} (h : Ext ((w.alloc o).alloc u) W) : W.heap[w.heap.size + 1]? = some u := (h.block _ (by simp)).trans (heap_new2 w o u)
/-- the paths ahead, as the program lays them -/
def startQ : Nat → Nat := fun c => if c = 0 then 1 else 0
def highN (M : Mt) (i : Nat) : Nat := (highM M i).toNat
def aheadF (M : Mt) (a : Nat) (sh : Int) : Nat → (Nat → Nat)
  | 0 => startQ
  | k + 1 => rdTo M (a + k + 1) (fun n => (n - sh) % 100) (fun c => spreadW (aheadF M a sh k c) (lowN M (a + k)) (highN M (a + k) - lowN M (a + k) + 1)) M.reads.length
def beforeF (M : Mt) (b : Nat) (sh : Int) : Nat → (Nat → Nat)
  | 0 => startQ
  | k + 1 => rdTo M (b - k - 1) (fun n => (sh - n) % 100) (fun c => spreadW (beforeF M b sh k c) (lowN M (b - k - 1)) (highN M (b - k - 1) - lowN M (b - k - 1) + 1)) M.reads.length
theorem start_cell (j : Nat) (hj : j < 192) : (if j = 0 + 0 / 64 then bits .or .u64 ((fun _ => 0 : Nat → Int) j) ((2 ^ (0 % 64) : Nat) : Int) else ((fun _ => 0 : Nat → Int) j)) = pF startQ j := by
  unfold pF startQ setF
  by_cases e : j = 0
  · subst e
    rw [if_pos rfl, if_pos rfl]
    decide +kernel
  · rw [if_neg (by omega)]
    by_cases e2 : j / 24 = 0
    · rw [if_pos e2]
      have : wd 1 (j % 24) = 0 := by
        have h := wd_pow (k := 0) (i := j % 24)
        rw [Nat.pow_zero, if_neg (by omega)] at h
        exact h
      rw [this]; rfl
    · rw [if_neg e2, wd_zero]; rfl

set_option maxRecDepth 20000 in
set_option maxHeartbeats 3200000 in
theorem ahead04 (M : Mt) (hM : ValidM M) (a b mb : Nat) (mt : TypeId) (sh : Int) (p qq : Option Addr) (c d : Nat) (w : World)
    (hp : PairsAt w p M.weeks) (hq : PairsAt w qq M.reads) (hm : Blk w mb mt 2400 .u64 mskF) (hab : a ≤ b) (hb : b ≤ M.weeks.length) (hs0 : 0 ≤ sh) (hs1 : sh ≤ 99) :
    Calls Tryz.prog 148 #[.agg #[.slice p M.weeks.length c, .slice qq M.reads.length d, .int .i64 M.wrong], .int .i64 a, .int .i64 b, .int .i64 sh, .pointer (some ⟨mb, 0, none⟩)] w
      (RetE (.agg (rowV 192 .u64 (pF (aheadF M a sh (b - a))))) w) := by
  have HP := Lib.hid hp
  have HQ := Lib.hid hq
  have HMK := Lib.hid hm
  have HVM := Lib.hid hM
  have hn5 := hM.nw
  clear hp hq hm hM
  go_enter Tryz.func148, Tryz.ntmps148
  go_upto_region 2 with (fail)
  rw [zero192]
  obtain ⟨s0, hs0'⟩ : ∃ s0, s0 = w.heap.size := ⟨_, rfl⟩
  generalize hW : World.alloc _ _ = W
  have m0 : W.heap[s0]? = some (.cells #[.slice p M.weeks.length c, .slice qq M.reads.length d, .int .i64 M.wrong] 55) := by
    rw [hs0']; exact heap_at0 (by rw [← hW]; exact (by repeat (first | exact Ext.refl _ | assumption | refine Ext.drewN ?_ _ | refine Ext.drew ?_ | refine Ext.alloc ?_ _)))
  have m1 : W.heap[s0 + 1]? = some (.cells #[.int .i64 sh] 3) := by
    rw [hs0']; exact heap_at1 (o := .cells #[.slice p M.weeks.length c, .slice qq M.reads.length d, .int .i64 M.wrong] 55) (by rw [← hW]; exact (by repeat (first | exact Ext.refl _ | assumption | refine Ext.drewN ?_ _ | refine Ext.drew ?_ | refine Ext.alloc ?_ _)))
  have br : Blk W (s0 + 1 + 1) 204 192 .u64 (fun _ => 0) := by rw [← hW, hs0']; exact (Blk.new' (by simp) _ _ _ _).alloc _
  have bp : Blk W (s0 + 1 + 1 + 1) 204 192 .u64 (fun _ => 0) := by rw [← hW, hs0']; exact Blk.new' (by simp) _ _ _ _
  have hE : Ext w W := by rw [← hW]; exact (by repeat (first | exact Ext.refl _ | assumption | refine Ext.drewN ?_ _ | refine Ext.drew ?_ | refine Ext.alloc ?_ _))
  rw [← hs0']
  have HPUT := Lib.hid (put04 W (s0 + 1 + 1 + 1) 204 192 (fun _ => 0) 0 0 bp (by decide) (by decide))
  have m00 : W.cell? ⟨s0, 0, none⟩ = some (.slice p M.weeks.length c) := cell_of_heap m0 0
  have m01 : W.cell? ⟨s0, 1, none⟩ = some (.slice qq M.reads.length d) := cell_of_heap m0 1
  have m02 : W.cell? ⟨s0, 2, none⟩ = some (.int .i64 M.wrong) := cell_of_heap m0 2
  have m10 : W.cell? ⟨s0 + 1, 0, none⟩ = some (.int .i64 sh) := cell_of_heap m1 0
  have HCE := Lib.hid (fun y (h : Ups (s0 + 1 + 1 + 1) W y) => (⟨h.cell m00 (by omega), h.cell m01 (by omega), h.cell m02 (by omega), h.cell m10 (by omega), br.ups h (by omega), hE.ups h (by omega)⟩ :
    y.cell? ⟨s0, 0, none⟩ = some (.slice p M.weeks.length c) ∧ y.cell? ⟨s0, 1, none⟩ = some (.slice qq M.reads.length d) ∧ y.cell? ⟨s0, 2, none⟩ = some (.int .i64 M.wrong) ∧ y.cell? ⟨s0 + 1, 0, none⟩ = some (.int .i64 sh) ∧ Blk y (s0 + 1 + 1) 204 192 .u64 (fun _ => 0) ∧ Ext w y))
  have HS0 := Lib.hid hs0'
  clear hW m0 m1 br bp hE m00 m01 m02 m10 hs0'
  go_upto_region 3 with (go_at_call 147; refine HPUT.out.mono ?_; rintro e W2 ⟨rfl, hU2, hB2⟩)
  have HB2 := Lib.hid (hB2.congr (g := pF startQ) start_cell)
  have HU2 := Lib.hid hU2
  clear hU2 hB2 HPUT
  go_wp2
  go_loopw [12] (fun x wr => ∃ k : Nat, a + k ≤ b ∧ x = .int .i64 ((a + k : Nat) : Int) ∧ Ups (s0 + 1 + 1 + 1) W wr ∧ Blk wr (s0 + 1 + 1 + 1) 204 192 .u64 (pF (aheadF M a sh k))) (fun x _ => b - (intOf x).toNat)
  case atStart => exact ⟨0, by omega, rfl, HU2.out, HB2.out⟩
  case round =>
    obtain ⟨k, hk, rfl, hU, hB⟩ := hrel
    obtain ⟨c0, c1, c2, c3, bz, hE⟩ := HCE.out wr hU
    have HUR := Lib.hid hU
    have HBR := Lib.hid hB
    clear hU hB HU2 HB2
    obtain ⟨i, hi⟩ : ∃ i, i = a + k := ⟨_, rfl⟩
    have HI := Lib.hid hi
    rw [← hi]
    have hib : i ≤ b := by omega
    clear hi hk
    by_cases hlt : i < b
    · have hil : i < M.weeks.length := by omega
      obtain ⟨wb, wo, hpp, w0, w1⟩ := HP.out.ext hE i hil
      subst hpp
      have hspan := week_span HVM.out hil
      have hlo : M.weeks[i].1 = (lowN M i : Int) := by
        have e : M.weeks[i].1 = lowM M i := by unfold lowM; rw [List.getD_eq_getElem?_getD, List.getElem?_eq_getElem hil]; rfl
        rw [e]; unfold lowN; omega
      have hhi : M.weeks[i].2 = (highN M i : Int) := by
        have e : M.weeks[i].2 = highM M i := by unfold highM; rw [List.getD_eq_getElem?_getD, List.getElem?_eq_getElem hil]; rfl
        rw [e]; unfold highN; omega
      rw [hlo] at w0
      rw [hhi] at w1
      have hlh : lowN M i ≤ highN M i := by unfold lowN highN; omega
      have hh3 : highN M i ≤ 300 := by unfold highN; omega
      have HSP := Lib.hid (spreadP04 (aheadF M a sh k) (s0 + 1 + 1 + 1) 204 (lowN M i) (highN M i) wr HBR.out hlh hh3)
      have hlt' : (i : Int) < (b : Int) := by omega
      have hil' : (i : Int) < (M.weeks.length : Int) := by omega
      have HEW := Lib.hid hE
      have HBZ := Lib.hid bz
      clear hlo hhi hspan hlh hh3 hE bz
      go_upto_region 7 with (go_at_call 163; refine HSP.out.mono ?_; rintro e w3 ⟨rfl, hU3, hB3⟩)
      have hU3' : Ups (s0 + 1 + 1 + 1) W w3 := HUR.out.trans hU3
      obtain ⟨c0, c1, c2, c3, bz, hE⟩ := HCE.out w3 hU3'
      have HRD := Lib.hid (read04 M _ (s0 + 1 + 1 + 1) mb (s0 + 1) 165 (i + 1) 204 mt (fun n => (n - sh) % 100) (some ⟨wb, wo, none⟩) qq c d w3
        (fun y hy => HQ.out.ext (hE.ups hy (by have := HS0.out; omega))) hB3 (HMK.out.ext hE) (by have := HMK.out.lt; have := HS0.out; omega)
        (enters_of Tryz.func165 (by kernel_rfl) rfl)
        (fun y n hy h0 h9 => aheadFn04 n sh (s0 + 1) y (hy.cell c3 (by omega)) ⟨h0, h9⟩ ⟨hs0, hs1⟩)
        (fun n h0 h9 => by omega) (fun r hr => by have := HVM.out.read r hr; omega) (by have := HVM.out.nr; omega))
      have hi1 : ((i + 1 : Nat) : Int) = (i : Int) + 1 := by omega
      rw [hi1] at HRD
      have HU3 := Lib.hid hU3'
      clear hU3 hB3 hU3' bz hE HBR HSP w0 w1
      go_upto_region 5 with (go_at_call 164; refine HRD.out.mono ?_; rintro e w4 ⟨rfl, hU4, hB4⟩)
      have HU4 := Lib.hid (HU3.out.trans hU4)
      have HB4 := Lib.hid (show Blk w4 (s0 + 1 + 1 + 1) 204 192 .u64 (pF (aheadF M a sh (k + 1))) from by
        have e := HI.out
        subst e
        exact hB4)
      clear hU4 hB4 HRD c0 c1 c2 c3 hi1
      go_wp2
      go_roundw
      case rel => exact ⟨k + 1, by have := HI.out; omega, by have := HI.out; simp only [Value.int.injEq, true_and]; omega, HU4.out, HB4.out⟩
      case measure => simp [intOf]; omega
    · have hk : k = b - a := by have := HI.out; omega
      have HEW := Lib.hid hE
      have HBZ := Lib.hid bz
      have hnl : ¬(i : Int) < (b : Int) := by omega
      clear hE bz hlt
      go_upto_region 8 with (fail)
      refine wp_region_lit (wpList_loadB 204 _ _ Tryz.underlying204 rfl iPaths rfl rfl rfl HBR.out (Nat.le_refl _) ?_)
      rw [show (fun j => pF (aheadF M a sh k) (0 + j)) = pF (aheadF M a sh k) from funext (fun j => by rw [Nat.zero_add])]
      refine wpList_storeB 204 _ _ iPaths rfl rfl rfl rfl HBZ.out (Nat.le_refl _) ?_
      refine wpList_nil ?_
      have HF := Lib.hid (HBZ.out.sets 0 (pF (aheadF M a sh k)) 192)
      have HFE : Ext w _ := Ext.setCells (b := s0 + 1 + 1) HEW.out (by have := HS0.out; omega) 0 (rowV 192 .u64 (pF (aheadF M a sh k))).toList
      generalize World.setCells wr _ _ _ = W9 at HF HFE ⊢
      have HG := Lib.hid (HF.out.congr (g := pF (aheadF M a sh k)) (fun j hj => by rw [if_pos (by omega), Nat.sub_zero]))
      have HFE := Lib.hid HFE
      go_wp2
      exact ret_row 204 _ rfl rfl HG.out Tryz.underlying204 rfl iPaths rfl (RetE.fin HFE.out (by rw [hk]))
end Go.Proofs.YtppncdbhebgcaaaGreatDoor
namespace Go.Proofs.YtppncdbhebgcaaaGreatDoor
open Go.RowKit

set_option maxRecDepth 20000 in
set_option maxHeartbeats 3200000 in
theorem before04 (M : Mt) (hM : ValidM M) (b mb : Nat) (mt : TypeId) (sh : Int) (p qq : Option Addr) (c d : Nat) (w : World)
    (hp : PairsAt w p M.weeks) (hq : PairsAt w qq M.reads) (hm : Blk w mb mt 2400 .u64 mskF) (hb : b ≤ M.weeks.length) (hs0 : 0 ≤ sh) (hs1 : sh ≤ 99) :
    Calls Tryz.prog 150 #[.agg #[.slice p M.weeks.length c, .slice qq M.reads.length d, .int .i64 M.wrong], .int .i64 0, .int .i64 b, .int .i64 sh, .pointer (some ⟨mb, 0, none⟩)] w
      (RetE (.agg (rowV 192 .u64 (pF (beforeF M b sh b)))) w) := by
  have HP := Lib.hid hp
  have HQ := Lib.hid hq
  have HMK := Lib.hid hm
  have HVM := Lib.hid hM
  have hn5 := hM.nw
  clear hp hq hm hM
  go_enter Tryz.func150, Tryz.ntmps150
  go_upto_region 2 with (fail)
  rw [zero192]
  obtain ⟨s0, hs0'⟩ : ∃ s0, s0 = w.heap.size := ⟨_, rfl⟩
  generalize hW : World.alloc _ _ = W
  have m0 : W.heap[s0]? = some (.cells #[.slice p M.weeks.length c, .slice qq M.reads.length d, .int .i64 M.wrong] 55) := by
    rw [hs0']; exact heap_at0 (by rw [← hW]; exact (by repeat (first | exact Ext.refl _ | assumption | refine Ext.drewN ?_ _ | refine Ext.drew ?_ | refine Ext.alloc ?_ _)))
  have m1 : W.heap[s0 + 1]? = some (.cells #[.int .i64 sh] 3) := by
    rw [hs0']; exact heap_at1 (o := .cells #[.slice p M.weeks.length c, .slice qq M.reads.length d, .int .i64 M.wrong] 55) (by rw [← hW]; exact (by repeat (first | exact Ext.refl _ | assumption | refine Ext.drewN ?_ _ | refine Ext.drew ?_ | refine Ext.alloc ?_ _)))
  have br : Blk W (s0 + 1 + 1) 204 192 .u64 (fun _ => 0) := by rw [← hW, hs0']; exact (Blk.new' (by simp) _ _ _ _).alloc _
  have bp : Blk W (s0 + 1 + 1 + 1) 204 192 .u64 (fun _ => 0) := by rw [← hW, hs0']; exact Blk.new' (by simp) _ _ _ _
  have hE : Ext w W := by rw [← hW]; exact (by repeat (first | exact Ext.refl _ | assumption | refine Ext.drewN ?_ _ | refine Ext.drew ?_ | refine Ext.alloc ?_ _))
  rw [← hs0']
  have HPUT := Lib.hid (put04 W (s0 + 1 + 1 + 1) 204 192 (fun _ => 0) 0 0 bp (by decide) (by decide))
  have m00 : W.cell? ⟨s0, 0, none⟩ = some (.slice p M.weeks.length c) := cell_of_heap m0 0
  have m01 : W.cell? ⟨s0, 1, none⟩ = some (.slice qq M.reads.length d) := cell_of_heap m0 1
  have m02 : W.cell? ⟨s0, 2, none⟩ = some (.int .i64 M.wrong) := cell_of_heap m0 2
  have m10 : W.cell? ⟨s0 + 1, 0, none⟩ = some (.int .i64 sh) := cell_of_heap m1 0
  have HCE := Lib.hid (fun y (h : Ups (s0 + 1 + 1 + 1) W y) => (⟨h.cell m00 (by omega), h.cell m01 (by omega), h.cell m02 (by omega), h.cell m10 (by omega), br.ups h (by omega), hE.ups h (by omega)⟩ :
    y.cell? ⟨s0, 0, none⟩ = some (.slice p M.weeks.length c) ∧ y.cell? ⟨s0, 1, none⟩ = some (.slice qq M.reads.length d) ∧ y.cell? ⟨s0, 2, none⟩ = some (.int .i64 M.wrong) ∧ y.cell? ⟨s0 + 1, 0, none⟩ = some (.int .i64 sh) ∧ Blk y (s0 + 1 + 1) 204 192 .u64 (fun _ => 0) ∧ Ext w y))
  have HS0 := Lib.hid hs0'
  clear hW m0 m1 br bp hE m00 m01 m02 m10 hs0'
  go_upto_region 3 with (go_at_call 147; refine HPUT.out.mono ?_; rintro e W2 ⟨rfl, hU2, hB2⟩)
  have HB2 := Lib.hid (hB2.congr (g := pF startQ) start_cell)
  have HU2 := Lib.hid hU2
  clear hU2 hB2 HPUT
  go_wp2
  go_loopw [12] (fun x wr => ∃ j : Nat, j ≤ b ∧ x = .int .i64 ((j : Int) - 1) ∧ Ups (s0 + 1 + 1 + 1) W wr ∧ Blk wr (s0 + 1 + 1 + 1) 204 192 .u64 (pF (beforeF M b sh (b - j)))) (fun x _ => (intOf x + 1).toNat)
  case atStart => exact ⟨b, by omega, rfl, HU2.out, by rw [Nat.sub_self]; exact HB2.out⟩
  case round =>
    obtain ⟨j, hj, rfl, hU, hB⟩ := hrel
    obtain ⟨c0, c1, c2, c3, bz, hE⟩ := HCE.out wr hU
    have HUR := Lib.hid hU
    have HBR := Lib.hid hB
    clear hU hB HU2 HB2
    by_cases hlt : 1 ≤ j
    · obtain ⟨i, rfl⟩ : ∃ i, j = i + 1 := ⟨j - 1, by omega⟩
      have e1 : ((i + 1 : Nat) : Int) - 1 = (i : Int) := by omega
      rw [e1]
      obtain ⟨k, hk⟩ : ∃ k, k = b - (i + 1) := ⟨_, rfl⟩
      rw [← hk] at HBR
      have HI := Lib.hid (show b - k - 1 = i ∧ b - i = k + 1 from by omega)
      have hge : (0 : Int) ≤ (i : Int) := by omega
      clear hk e1
      have hil : i < M.weeks.length := by omega
      obtain ⟨wb, wo, hpp, w0, w1⟩ := HP.out.ext hE i hil
      subst hpp
      have hspan := week_span HVM.out hil
      have hlo : M.weeks[i].1 = (lowN M i : Int) := by
        have e : M.weeks[i].1 = lowM M i := by unfold lowM; rw [List.getD_eq_getElem?_getD, List.getElem?_eq_getElem hil]; rfl
        rw [e]; unfold lowN; omega
      have hhi : M.weeks[i].2 = (highN M i : Int) := by
        have e : M.weeks[i].2 = highM M i := by unfold highM; rw [List.getD_eq_getElem?_getD, List.getElem?_eq_getElem hil]; rfl
        rw [e]; unfold highN; omega
      rw [hlo] at w0
      rw [hhi] at w1
      have hlh : lowN M i ≤ highN M i := by unfold lowN highN; omega
      have hh3 : highN M i ≤ 300 := by unfold highN; omega
      have HSP := Lib.hid (spreadP04 (beforeF M b sh k) (s0 + 1 + 1 + 1) 204 (lowN M i) (highN M i) wr HBR.out hlh hh3)
      have hil' : (i : Int) < (M.weeks.length : Int) := by omega
      have HEW := Lib.hid hE
      have HBZ := Lib.hid bz
      clear hlo hhi hspan hlh hh3 hE bz
      go_upto_region 7 with (go_at_call 163; refine HSP.out.mono ?_; rintro e w3 ⟨rfl, hU3, hB3⟩)
      have hU3' : Ups (s0 + 1 + 1 + 1) W w3 := HUR.out.trans hU3
      obtain ⟨c0, c1, c2, c3, bz, hE⟩ := HCE.out w3 hU3'
      have HRD := Lib.hid (read04 M _ (s0 + 1 + 1 + 1) mb (s0 + 1) 167 i 204 mt (fun n => (sh - n) % 100) (some ⟨wb, wo, none⟩) qq c d w3
        (fun y hy => HQ.out.ext (hE.ups hy (by have := HS0.out; omega))) hB3 (HMK.out.ext hE) (by have := HMK.out.lt; have := HS0.out; omega)
        (enters_of Tryz.func167 (by kernel_rfl) rfl)
        (fun y n hy h0 h9 => beforeFn04 n sh (s0 + 1) y (hy.cell c3 (by omega)) ⟨h0, h9⟩ ⟨hs0, hs1⟩)
        (fun n h0 h9 => by omega) (fun r hr => by have := HVM.out.read r hr; omega) (by have := HVM.out.nr; omega))
      have HU3 := Lib.hid hU3'
      clear hU3 hB3 hU3' bz hE HBR HSP w0 w1
      go_upto_region 5 with (go_at_call 164; refine HRD.out.mono ?_; rintro e w4 ⟨rfl, hU4, hB4⟩)
      have HU4 := Lib.hid (HU3.out.trans hU4)
      have HB4 := Lib.hid (show Blk w4 (s0 + 1 + 1 + 1) 204 192 .u64 (pF (beforeF M b sh (b - i))) from by
        rw [HI.out.2, beforeF, HI.out.1]
        exact hB4)
      clear hU4 hB4 HRD c0 c1 c2 c3
      go_wp2
      go_roundw
      case rel => exact ⟨i, by omega, rfl, HU4.out, HB4.out⟩
      case measure => simp [intOf]
    · obtain rfl : j = 0 := by omega
      rw [Nat.sub_zero] at HBR
      have HEW := Lib.hid hE
      have HBZ := Lib.hid bz
      clear hE bz hlt
      go_upto_region 8 with (fail)
      refine wp_region_lit (wpList_loadB 204 _ _ Tryz.underlying204 rfl iPaths rfl rfl rfl HBR.out (Nat.le_refl _) ?_)
      rw [show (fun j => pF (beforeF M b sh b) (0 + j)) = pF (beforeF M b sh b) from funext (fun j => by rw [Nat.zero_add])]
      refine wpList_storeB 204 _ _ iPaths rfl rfl rfl rfl HBZ.out (Nat.le_refl _) ?_
      refine wpList_nil ?_
      have HF := Lib.hid (HBZ.out.sets 0 (pF (beforeF M b sh b)) 192)
      have HFE : Ext w _ := Ext.setCells (b := s0 + 1 + 1) HEW.out (by have := HS0.out; omega) 0 (rowV 192 .u64 (pF (beforeF M b sh b))).toList
      generalize World.setCells wr _ _ _ = W9 at HF HFE ⊢
      have HG := Lib.hid (HF.out.congr (g := pF (beforeF M b sh b)) (fun j hj => by rw [if_pos (by omega), Nat.sub_zero]))
      have HFE := Lib.hid HFE
      go_wp2
      exact ret_row 204 _ rfl rfl HG.out Tryz.underlying204 rfl iPaths rfl (RetE.fin HFE.out rfl)
end Go.Proofs.YtppncdbhebgcaaaGreatDoor
