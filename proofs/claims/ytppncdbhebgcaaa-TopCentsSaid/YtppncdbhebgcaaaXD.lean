
/- A drawn region by facts, one of whose operations writes what others read ahead of it. No program in sight. The walk of spread, of a set. Two sets are compared; the walk of spread, of paths. The walk of spread, of paths. The walks of mod, and of what a reading shows, ahead and before. The walk of read, of paths: readings are held against eight sets. The walks of ahead and before. The walk of before. -/
import Derived.Test.YtppncdbhebgcaaaVA
import Derived.StillTail
import Derived.RegionTactic
import Derived.Test.YtppncdbhebgcaaaXB
import Derived.Test.YtppncdbhebgcaaaXC
import Derived.Test.YtppncdbhebgcaaaRows
namespace Go.Proofs.Ytppncdbhebgcaaa
open Go.RowKit

section
variable {P : Program} {ops : Array Oper} {Q : Exit → Act → World → Prop} {md : Region.Mode}
structure HInv2 (md : Region.Mode) (ops : Array Oper) (n k : Nat) (R0 R : World → World → Prop) (F : Nat → Value → Nat → Nat → World → Prop) (a0 : Act) (w0 : World) (l : List Oper) (listed : Array Bool) (a : Act) (w : World) : Prop where
  inv : HeadInv md ops n listed
  rel : R w0 w
  strong : listed.getD k false = false → R0 w0 w
  fr : ∃ (ys : Nat → Value) (lo hi : Nat → Nat), a = fill ys 0 l a0 ∧ (∀ j, listed.getD j false = true → F j (ys j) (lo j) (hi j) w ∧ w0.heap.size ≤ lo j ∧ lo j ≤ hi j ∧ hi j ≤ w.heap.size) ∧
    ∀ i j, listed.getD i false = true → listed.getD j false = true → i ≠ j → hi i ≤ lo j ∨ hi j ≤ lo i

/-- what is owed of operation i -/
def OpF2 (P : Program) (Q : Exit → Act → World → Prop) (k : Nat) (C : List Nat) (R0 R : World → World → Prop) (F : Nat → Value → Nat → Nat → World → Prop) (D : List (List Nat)) (l : List Oper) (n : Nat) (a0 : Act) (w0 : World) (i : Nat) : Prop :=
  ∀ (ys : Nat → Value) (lo hi : Nat → Nat) (w' : World), R w0 w' → (i = k ∨ C.contains i = true → R0 w0 w') → Facts F ys lo hi w' (D.getD i []) →
    wpOp P l.toArray Q i (fun a' w'' => ∃ v, a' = (fill ys 0 (l.take n) a0).put ((l[i]?).bind (·.dst)) v ∧ F i v w'.heap.size w''.heap.size w'' ∧ (i = k → R w' w'') ∧ (i ≠ k → R0 w' w'')) (fill ys 0 (l.take n) a0) w'
theorem wpAny_facts2 {n k : Nat} {C : List Nat} {R0 R : World → World → Prop} {F : Nat → Value → Nat → Nat → World → Prop} {D : List (List Nat)} {a0 : Act} {w0 : World} {l : List Oper}
    (hn : n ≤ l.length) (hd : dstB (l.take n) = true) (hup : upB md l.toArray = true) (ht : tailB md l.toArray n = true) (hD : ∀ i, i < n → ∀ j ∈ D.getD i [], j ∈ deps md l.toArray i)
    (hk : k < n) (hC : ∀ i, C.contains i = true → i ∈ deps md l.toArray k) (h0R : ∀ a b, R0 a b → R a b) (hT0 : ∀ a b c, R0 a b → R0 b c → R0 a c) (hT : ∀ a b c, R a b → R b c → R a c) (hS : ∀ a b, R a b → a.heap.size ≤ b.heap.size) (hF : ∀ j v s t w w', R0 w w' → F j v s t w → F j v s t w') (hFk : ∀ j v s t w w', j ≠ k → R w w' → F j v s t w → F j v s t w')
    (hops : ∀ i, i < n → OpF2 P Q k C R0 R F D l n a0 w0 i) 
    (g : Nat) (hdone : ∀ ys lo hi w', R w0 w' → (∀ j, j < n → F j (ys j) (lo j) (hi j) w') → Spans n lo hi w0.heap.size w'.heap.size → wpAny P md l.toArray Q g (firstB l.length n) (fill ys 0 (l.take n) a0) w') :
    ∀ (f : Nat) (listed : Array Bool) (a : Act) (w : World), ((List.range n).filter fun i => !listed.getD i true).length = f → HInv2 md l.toArray n k R0 R F a0 w0 (l.take n) listed a w →
      wpAny P md l.toArray Q (f + g) listed a w
  | 0, listed, a, w, hf, H => by
    obtain ⟨inv, hr, -, ys, lo, hi, rfl, hy, hap⟩ := H
    have hall : ∀ i, i < n → listed.getD i true = true := fun i hi => by
      cases hc : listed.getD i true with
      | true => rfl
      | false => have := count_lt (p := fun i => !listed.getD i true) ⟨i, hi, by simp [hc]⟩; omega
    have hsz : l.toArray.size = l.length := by simp
    have hll : listed = firstB l.length n := by
      apply Array.ext
      · simp [firstB, inv.size]
      · intro i h1 h2
        simp only [firstB, Array.getElem_map, Array.getElem_range]
        by_cases e : i < n
        · have := hall i e
          simp [h1] at this
          simp [e, this]
        · have := inv.tail i (by omega) (by rw [← inv.size]; exact h1)
          simp [h1] at this
          simp [e, this]
    have hb : ∀ j, j < n → listed.getD j false = true := fun j hj => by
      have := hall j hj
      have h2 : j < listed.size := by rw [inv.size]; omega
      simp [h2] at this ⊢
      exact this
    rw [Nat.zero_add, hll]
    exact hdone ys lo hi w hr (fun j hj => (hy j (hb j hj)).1) ⟨fun j hj => (hy j (hb j hj)).2, fun i j h1 h2 => hap i j (hb i h1) (hb j h2)⟩
  | f + 1, listed, a, w, hf, H => by
    obtain ⟨inv, hr, hst, ys, lo, hi', rfl, hy, hap⟩ := H
    have hsz : l.toArray.size = l.length := by simp
    rw [show f + 1 + g = (f + g) + 1 by omega]
    have hex : ∃ i, i < n ∧ listed.getD i true = false := by
      have : 0 < ((List.range n).filter fun i => !listed.getD i true).length := by omega
      obtain ⟨i, hi⟩ := List.exists_mem_of_length_pos this
      rw [List.mem_filter, List.mem_range] at hi
      exact ⟨i, hi.1, by simpa using hi.2⟩
    refine ⟨fun h0 => ?_, fun i hi => ?_⟩
    · exfalso
      obtain ⟨i, hin, hiu⟩ := hex
      have hno : ∀ m i, i ≤ m → i < n → listed.getD i true = false → False := by
        intro m
        induction m with
        | zero =>
          intro i him hin hiu
          obtain rfl : i = 0 := by omega
          have hlt : 0 < l.toArray.size := by omega
          obtain ⟨o, ho⟩ : ∃ o, l.toArray[0]? = some o := ⟨_, Array.getElem?_eq_getElem hlt⟩
          have hu := List.all_eq_true.1 hup 0 (List.mem_range.2 hlt)
          have : (0 : Nat) ∈ Region.ready md l.toArray listed := mem_ready.2 ⟨hiu, o, ho, fun e he hb => by
            rw [ho] at hu
            have := Array.all_eq_true'.1 hu e he
            simp [hb] at this⟩
          rw [h0] at this; cases this
        | succ m ih =>
          intro i him hin hiu
          have hlt : i < l.toArray.size := by omega
          obtain ⟨o, ho⟩ : ∃ o, l.toArray[i]? = some o := ⟨_, Array.getElem?_eq_getElem hlt⟩
          have hu := List.all_eq_true.1 hup i (List.mem_range.2 hlt)
          have : i ∈ Region.ready md l.toArray listed := mem_ready.2 ⟨hiu, o, ho, fun e he hb => by
            rw [ho] at hu
            have h1 := Array.all_eq_true'.1 hu e he
            simp [hb] at h1
            cases hc : listed.getD e.on false with
            | true => rfl
            | false => exact (ih e.on (by omega) (by omega) (getD_in (by rw [inv.size]; omega) hc)).elim⟩
          rw [h0] at this; cases this
      exact hno i i (Nat.le_refl _) hin hiu
    · have hin : i < n := by
        rcases Nat.lt_or_ge i n with h | h
        · exact h
        · exfalso
          obtain ⟨hiu, oi, hoi, _⟩ := mem_ready.1 hi
          have hisz := (Array.getElem?_eq_some_iff.1 hoi).1
          simp only [tailB, Bool.or_eq_true, decide_eq_true_eq, Bool.and_eq_true] at ht
          rcases ht with ht | ⟨⟨ht1, ht2⟩, ht3⟩
          · omega
          · obtain ⟨k, hk1, hk2⟩ := hex
            exact absurd hi (tail_waits ht2 ht3 ht1 inv _ k rfl hk1 hk2 i h)
      obtain ⟨hiu, oi, hoi, hall⟩ := mem_ready.1 hi
      have hd1 := depsB_ok (md := md) hoi hall inv.closed i [] (fun k hk => by cases hk)
      have hfac : Facts F ys lo hi' w (D.getD i []) := Facts.of (fun j hj => (hy j (hd1 j (hD i hin j hj))).1)
      have hstr : i = k ∨ C.contains i = true → R0 w0 w := fun hc' => by
        refine hst ?_
        rcases hc' with hc' | hc
        · subst hc'
          have h2 : i < listed.size := by rw [inv.size]; omega
          simp [h2] at hiu ⊢
          exact hiu
        cases hl : listed.getD k false with
        | false => rfl
        | true =>
          exfalso
          have hksz : k < l.toArray.size := by omega
          obtain ⟨ok, hok⟩ : ∃ o, l.toArray[k]? = some o := ⟨_, Array.getElem?_eq_getElem hksz⟩
          have hd2 := depsB_ok (md := md) hok (inv.closed k ok hok hl) inv.closed k [] (fun k hk => by cases hk)
          have h1 := hd2 i (hC i hc)
          have h2 : i < listed.size := by rw [inv.size]; omega
          simp [h2] at h1 hiu
          rw [h1] at hiu; cases hiu
      refine wpOp_mono ?_ (hops i hin ys lo hi' w hr hstr hfac)
      rintro a' w' ⟨v, rfl, hv, hrk, hrn⟩
      have hrw : R w w' := by
        by_cases e : i = k
        · exact hrk e
        · exact h0R _ _ (hrn e)
      have hli : l[i]? = some oi := by simpa using hoi
      have hlt : (l.take n)[i]? = some oi := by rw [List.getElem?_take_of_lt hin]; exact hli
      have hs1 := hS _ _ hr
      have hs2 := hS _ _ hrw
      refine wpAny_facts2 hn hd hup ht hD hk hC h0R hT0 hT hS hF hFk hops g hdone f _ _ _ ?_ ⟨inv.set hi hin, hT _ _ _ hr hrw, (fun hl => by
        by_cases e : i = k
        · exfalso
          subst e
          have h1 := getD_set_true' listed i
          have h2 : i < listed.size := by rw [inv.size]; omega
          simp [h2] at hl
        · rw [getD_set_ne false e] at hl
          exact hT0 _ _ _ (hst hl) (hrn e)), upd ys i v, updI' lo i w.heap.size, updI' hi' i w'.heap.size, ?_, fun j hj => ?_, fun j k hj hk hjk => ?_⟩
      · have := count_set (n := n) hin (by rw [inv.size]; omega) hiu
        omega
      · rw [hli]
        have := fill_upd (ys := ys) v (l.take n) 0 a0 i oi hd hlt
        rw [Nat.zero_add] at this
        exact this
      · unfold upd updI'
        by_cases e : j = i
        · subst e; rw [if_pos rfl, if_pos rfl, if_pos rfl]; exact ⟨hv, hs1, hs2, Nat.le_refl _⟩
        · rw [if_neg e, if_neg e, if_neg e]
          rw [getD_set_ne false (Ne.symm e)] at hj
          obtain ⟨k1, k2, k3, k4⟩ := hy j hj
          refine ⟨?_, k2, k3, Nat.le_trans k4 hs2⟩
          by_cases ek : i = k
          · exact hFk _ _ _ _ _ _ (fun e' => e (e'.trans ek.symm)) hrw k1
          · exact hF _ _ _ _ _ _ (hrn ek) k1
      · unfold updI'
        by_cases e : j = i
        · subst e
          have e2 : ¬k = j := fun e2 => hjk e2.symm
          rw [if_pos rfl, if_pos rfl, if_neg e2, if_neg e2]
          rw [getD_set_ne false (Ne.symm e2)] at hk
          exact Or.inr (hy k hk).2.2.2
        · rw [if_neg e, if_neg e]
          rw [getD_set_ne false (Ne.symm e)] at hj
          by_cases e2 : k = i
          · subst e2
            rw [if_pos rfl, if_pos rfl]
            exact Or.inl (hy j hj).2.2.2
          · rw [if_neg e2, if_neg e2]
            rw [getD_set_ne false (Ne.symm e2)] at hk
            exact hap j k hj hk hjk

theorem wp_region_facts2 {id : Nat} {Q : Exit → Act → World → Prop} {a : Act} {w : World} {l : List Oper} (n : Nat) (D : List (List Nat)) (J : List Nat) (k : Nat) (C : List Nat) (R0 R : World → World → Prop) (F : Nat → Value → Nat → Nat → World → Prop) (hm : P.follows .mixedOrders = true)
    (hB : factsB .any l n D J = true) (hC : (decide (k < n) && C.all (fun i => (deps .any l.toArray k).contains i)) = true) (h0R : ∀ a b, R0 a b → R a b) (hT0 : ∀ a b c, R0 a b → R0 b c → R0 a c) (hR0 : ∀ w, R0 w w) (hR : ∀ w, R w w) (hT : ∀ a b c, R a b → R b c → R a c) (hS : ∀ a b, R a b → a.heap.size ≤ b.heap.size) (hF : ∀ j v s t w w', R0 w w' → F j v s t w → F j v s t w') (hFk : ∀ j v s t w w', j ≠ k → R w w' → F j v s t w → F j v s t w')
    (hops : AllOps (OpF2 P Q k C R0 R F D l n a w.drew) 0 n)
    (hdone : ∀ ys lo hi w', R w.drew w' → Facts F ys lo hi w' J → Spans n lo hi w.heap.size w'.heap.size → wpList P l.toArray Q (l.drop n) (fill ys 0 (l.take n) a) w') : (Code.region id l.toArray true).wp P Q a w := by
  simp only [factsB, Bool.and_eq_true, decide_eq_true_eq] at hB
  obtain ⟨⟨⟨⟨⟨⟨h1, h2⟩, h3⟩, h4⟩, h5⟩, h6⟩, h7⟩ := hB
  refine wp_region_any hm ?_
  have hsz : l.toArray.size = l.length := by simp
  simp only [Bool.and_eq_true, decide_eq_true_eq] at hC
  have key := wpAny_facts2 (P := P) (Q := Q) (md := .any) (n := n) (k := k) (C := C) (R0 := R0) (R := R) (F := F) (D := D) (a0 := a) (w0 := w.drew) (l := l) h1 h2 h3 h4
    (fun i hi j hj => by have := List.all_eq_true.1 (List.all_eq_true.1 h6 i (List.mem_range.2 hi)) j hj; simpa using this) hC.1 (fun i hi => by have := List.all_eq_true.1 hC.2 i (by simpa using hi); simpa using this) h0R hT0 hT hS hF hFk (fun i hi => AllOps.of hops i (Nat.zero_le _) (by omega)) (l.length - n)
    (fun ys lo hi w' hr hf hsp => by
      have hdl : (l.drop n).length = l.length - n := by simp
      have := wpAny_of_seq (md := .any) (Q' := Q) (P := P) (ops := l.toArray) (l.drop n) n (firstB l.length n) (fill ys 0 (l.take n) a) w' (fun j => by simp [List.getElem?_drop]) (by rw [hdl]; exact h5) (hdone ys lo hi w' hr (Facts.of (fun j hj => hf j (by simpa using List.all_eq_true.1 h7 j hj))) hsp)
      rw [hdl] at this
      exact this)
    n (Array.replicate l.length false) a w.drew ?_ ?_
  · have e : n + (l.length - n) = l.toArray.size := by simp; omega
    rw [e] at key
    rw [hsz]
    rw [hsz] at key
    exact key
  · have : ((List.range n).filter fun i => !(Array.replicate l.length false).getD i true) = List.range n := List.filter_eq_self.2 (fun i hi => by
      have := List.mem_range.1 hi
      have h : i < l.length := by omega
      simp [h])
    rw [this, List.length_range]
  · refine ⟨⟨by simp, fun j oj _ hl => (by rw [getD_replicate_false] at hl; cases hl), fun t _ ht => getD_in (by simpa using ht) (getD_replicate_false _ _)⟩, hR _, fun _ => hR0 _, ys0 (l.take n) a, fun _ => 0, fun _ => 0, (fill_same _ 0 a (fun j o d hj hd => ?_)).symm, fun j hj => (by rw [getD_replicate_false] at hj; cases hj), fun j _ hj => (by rw [getD_replicate_false] at hj; cases hj)⟩
    rw [Nat.zero_add]
    simp only [ys0, hj, Option.bind_some, hd]

theorem opF2_step {k : Nat} {C : List Nat} {R0 R : World → World → Prop} {F : Nat → Value → Nat → Nat → World → Prop} {D : List (List Nat)} {l : List Oper} {n i : Nat} {a0 : Act} {w0 : World}
    (h : ∀ (ys : Nat → Value) (lo hi : Nat → Nat) (w' : World), R w0 w' → (i = k ∨ C.contains i = true → R0 w0 w') → Facts F ys lo hi w' (D.getD i []) → ∀ K : Act → World → Prop,
      Hid (∀ v w'', F i v w'.heap.size w''.heap.size w'' → (i = k → R w' w'') → (i ≠ k → R0 w' w'') → K ((fill ys 0 (l.take n) a0).put (dstO l[i]?) v) w'') →
      OpB P Q l.toArray (fill ys 0 (l.take n) a0) w' K l[i]?) : OpF2 P Q k C R0 R F D l n a0 w0 i := by
  intro ys lo hi w' hr hs hf
  cases ho : l[i]? with
  | none =>
    obtain ⟨o, h1, -⟩ := (h ys lo hi w' hr hs hf (fun _ _ => True) (Lib.hid (fun _ _ _ _ _ => trivial))).out
    rw [ho] at h1; cases h1
  | some o =>
    refine wpOp_step (o := o) (by simpa using ho) (fun K hK => ?_)
    obtain ⟨o', h1, h2⟩ := (h ys lo hi w' hr hs hf K (Lib.hid (fun v w'' h1 h2 h3 => by rw [ho]; exact hK _ _ ⟨v, rfl, h1, h2, h3⟩))).out
    rw [ho] at h1; cases h1
    exact h2
end
end Go.Proofs.Ytppncdbhebgcaaa
namespace Go.Proofs.Ytppncdbhebgcaaa
open Go.RowKit

end Go.Proofs.Ytppncdbhebgcaaa
namespace Go.Proofs.Ytppncdbhebgcaaa
open Go.RowKit

end Go.Proofs.Ytppncdbhebgcaaa
namespace Go.Proofs.Ytppncdbhebgcaaa
open Go.RowKit

end Go.Proofs.Ytppncdbhebgcaaa
namespace Go.Proofs.Ytppncdbhebgcaaa
open Go.RowKit

end Go.Proofs.Ytppncdbhebgcaaa
namespace Go.Proofs.Ytppncdbhebgcaaa
open Go.RowKit

/-- A block that an operation has laid. -/
def NewB (t : TypeId) (n : Nat) (k : IntKind) (v : Value) (s e : Nat) (w : World) : Prop := v = .pointer (some ⟨s, 0, none⟩) ∧ s < e ∧ Blk w s t n k (fun _ => 0)
theorem NewB.mono {t : TypeId} {n : Nat} {k : IntKind} : ∀ v s e w w', Ext w w' → NewB t n k v s e w → NewB t n k v s e w' := fun _ _ _ _ _ hE h => ⟨h.1, h.2.1, h.2.2.ext hE⟩

def readQ (q : Nat → Nat) (right : Nat) : Nat → Nat := fun c => (q c &&& right) ||| andNot (if c = 0 then 0 else q (c - 1)) right
def rdTo (M : Mt) (a : Nat) (fn : Int → Int) (q : Nat → Nat) (k : Nat) : Nat → Nat := ((M.reads.take k).filter (fun r => decide (r.1 = (a : Int)))).foldl (fun q r => readQ q (maskN (fn r.2).toNat)) q
end Go.Proofs.Ytppncdbhebgcaaa
namespace Go.Proofs.Ytppncdbhebgcaaa
open Go.RowKit

/-- the paths ahead, as the program lays them -/
def startQ : Nat → Nat := fun c => if c = 0 then 1 else 0
def highN (M : Mt) (i : Nat) : Nat := (highM M i).toNat
def aheadF (M : Mt) (a : Nat) (sh : Int) : Nat → (Nat → Nat)
  | 0 => startQ
  | k + 1 => rdTo M (a + k + 1) (fun n => (n - sh) % 100) (fun c => spreadW (aheadF M a sh k c) (lowN M (a + k)) (highN M (a + k) - lowN M (a + k) + 1)) M.reads.length
def beforeF (M : Mt) (b : Nat) (sh : Int) : Nat → (Nat → Nat)
  | 0 => startQ
  | k + 1 => rdTo M (b - k - 1) (fun n => (sh - n) % 100) (fun c => spreadW (beforeF M b sh k c) (lowN M (b - k - 1)) (highN M (b - k - 1) - lowN M (b - k - 1) + 1)) M.reads.length
end Go.Proofs.Ytppncdbhebgcaaa
namespace Go.Proofs.Ytppncdbhebgcaaa
open Go.RowKit

end Go.Proofs.Ytppncdbhebgcaaa
