
/- Rows in memory of their own (what append lays), over steps of worlds. The walks of TrailingZeros64 and all. The numbers of a set, ascending: plain law; the walk of all. The walk of all. The walk of masks. -/
import Derived.Test.YtppncdbhebgcaaaGreatDoorRows
import Derived.Test.YtppncdbhebgcaaaGreatDoorVA
import Derived.Deep.AppendLies
import Derived.Laws.AppendOwnNone
import Derived.Laws.OwnMore
import Derived.Test.YtppncdbhebgcaaaGreatDoorXB
import Derived.Shelf.Spec.TrailingZeros
namespace Go.Proofs.YtppncdbhebgcaaaGreatDoor
open Go.RowKit

theorem cell_of_heap {w : World} {b : Nat} {cs : Array Value} {t : TypeId} {f : Nat × Nat} (h : w.heap[b]? = some (.cells cs t f)) (o : Nat) : w.cell? ⟨b, o, none⟩ = cs[o]? := by
  simp [World.cell?, h]
theorem heap_new (w : World) (o : Obj) : (w.alloc o).heap[w.heap.size]? = some o := by
  show (w.heap.push o)[w.heap.size]? = some o
  simp
theorem heap_new1 (w : World) (o u : Obj) : ((w.alloc o).alloc u).heap[w.heap.size]? = some o := by
  rw [Below.heap_alloc _ _ _ (by simp), heap_new]
theorem heap_new2 (w : World) (o u : Obj) : ((w.alloc o).alloc u).heap[w.heap.size + 1]? = some u := by
  have := heap_new (w.alloc o) u
  rwa [World.size_alloc] at this
theorem cell_frozen {w : World} {B : Nat} {cs : Array Value} {t : TypeId} (h : w.heap[B]? = some (.cells cs t (0, 0))) (k : Nat) : w.frozen? ⟨B, k, none⟩ = false := by
  simp [World.frozen?, h]
theorem info_a : (Tryz.prog.info? 3).map (fun i => (i.zero, i.size, i.bytes)) = some (some (.int .i64 0), 1, 8) := by kernel_rfl
theorem info_b : (Tryz.prog.info? 23).map (fun i => (i.zero, i.size, i.bytes)) = some (some (.slice none 0 0), 1, 24) := by kernel_rfl

def intVs (l : List Int) : List Value := l.map (Value.int .i64)
theorem intVs_len (l : List Int) : (intVs l).length = l.length := by simp [intVs]
theorem intVs_snoc (l : List Int) (n : Int) : intVs (l ++ [n]) = intVs l ++ [.int .i64 n] := by simp [intVs]

theorem ownsRow_ext {w w' : World} {B : Nat} {e : TypeId} {size : Nat} {v : Value} {n : Nat} {xs : List Value} (h : w.ownsRow B e size v n xs) (hE : Ext w w') : w'.ownsRow B e size v n xs := by
  refine ⟨h.1, ?_⟩
  rcases h.2 with h0 | ⟨g, cap, cur, hv, hb, hg, hr⟩
  · exact Or.inl h0
  · exact Or.inr ⟨g, cap, cur, hv, hb, (Below.block hE g (Array.getElem?_eq_some_iff.1 hg).1).trans hg, hr⟩
theorem ownsRow_fr {w w' : World} {E : Nat → Prop} {B : Nat} {e : TypeId} {size : Nat} {v : Value} {n : Nat} {xs : List Value} (h : w.ownsRow B e size v n xs) (hE : Fr E w w') (hn : ∀ g, v.ownBlock = some g → ¬E g) : w'.ownsRow B e size v n xs := by
  refine ⟨h.1, ?_⟩
  rcases h.2 with h0 | ⟨g, cap, cur, hv, hb, hg, hr⟩
  · exact Or.inl h0
  · exact Or.inr ⟨g, cap, cur, hv, hb, (hE.block g (Array.getElem?_eq_some_iff.1 hg).1 (hn g (by rw [hv]; rfl))).trans hg, hr⟩
theorem ownsRow_base {w : World} {B B' : Nat} {e : TypeId} {size : Nat} {v : Value} {n : Nat} {xs : List Value} (h : w.ownsRow B e size v n xs) (hB : B' ≤ B) : w.ownsRow B' e size v n xs := by
  refine ⟨h.1, ?_⟩
  rcases h.2 with h0 | ⟨g, cap, cur, hv, hb, hr⟩
  · exact Or.inl h0
  · exact Or.inr ⟨g, cap, cur, hv, Nat.le_trans hB hb, hr⟩
theorem ownsRow_at {w : World} {B : Nat} {e : TypeId} {v : Value} {n : Nat} {xs : List Value} (h : w.ownsRow B e 1 v n xs) (i : Nat) (hi : i < n) :
    ∃ b c, v = .slice (some ⟨b, 0, none⟩) n c ∧ w.cell? ⟨b, i, none⟩ = xs[i]? := by
  rcases h.2 with ⟨-, h0⟩ | ⟨g, cap, cur, rfl, -, hg, hc, -, hs, hx⟩
  · omega
  · refine ⟨g, cap, rfl, ?_⟩
    rw [cell_of_heap hg, ← hx, Nat.mul_one, List.getElem?_take, if_pos hi]
    simp
theorem row_ints {w : World} {B b c : Nat} {l : List Int} (h : w.ownsRow B 3 1 (.slice (some ⟨b, 0, none⟩) l.length c) l.length (intVs l)) : IntsAt w (some ⟨b, 0, none⟩) l := by
  intro i hi
  obtain ⟨b', c', he, hc⟩ := ownsRow_at h i hi
  cases he
  refine ⟨b, 0, _, rfl, ?_, rfl⟩
  rw [Nat.zero_add, hc]
  simp [intVs, hi]
theorem ownsRow_ints {w : World} {B : Nat} {v : Value} {l : List Int} (h : w.ownsRow B 3 1 v l.length (intVs l)) : IntsV w v l := by
  rcases h.2 with ⟨rfl, h0⟩ | ⟨g, cap, cur, rfl, -⟩
  · have : l = [] := List.length_eq_zero_iff.1 h0
    subst this
    exact ⟨none, 0, rfl, IntsAt.nil _ _⟩
  · exact ⟨_, _, rfl, row_ints h⟩
theorem ownsRow_setV {w : World} {B g n c i size : Nat} {e : TypeId} {xs : List Value} {u : Value} (h : w.ownsRow B e size (.slice (some ⟨g, 0, none⟩) n c) n xs) :
    (w.setCell ⟨g, i, none⟩ u).ownsRow B e size (.slice (some ⟨g, 0, none⟩) n c) n (xs.set i u) := by
  refine ⟨by rw [List.length_set]; exact h.1, ?_⟩
  rcases h.2 with ⟨hv, h0⟩ | ⟨g', cap, cur, hv, hB, hg, hc, hm, hs, hx⟩
  · cases hv
  · cases hv
    refine Or.inr ⟨g, c, cur.setIfInBounds i u, rfl, hB, heap_set hg rfl, hc, hm, by simpa using hs, ?_⟩
    rw [Array.toList_setIfInBounds, List.take_set, hx]
theorem Fr.low {E : Nat → Prop} {w w' : World} (h : Fr (fun k => E k ∨ w.heap.size ≤ k) w w') : Fr E w w' :=
  ⟨h.os, h.tape, h.output, h.size, fun k hk hn => h.block k hk (fun e => e.elim hn (by omega))⟩
theorem grown_fr {w w' : World} {r : Option Nat} (h : w.grownBy w' r) : Fr (fun k => r = some k) w w' :=
  ⟨h.os, h.tape, h.output, h.size, fun k hk hn => h.block k hk (fun e => hn e.symm)⟩
theorem hnewsE {w w' : World} {v : Value} {t : TypeId} {g : Nat} (hE : Ext (w.alloc (.cells #[v] t)) w') (hg : g = w.heap.size) : ∀ j u, [v][j]? = some u → w'.cell? ((⟨g, 0, none⟩ : Addr).add j) = some u := by
  intro j u hj
  subst hg
  match j, hj with
  | 0, hj =>
    simp at hj
    subst hj
    have := hE.cell ((cell_of_heap (heap_new w (.cells #[v] t)) 0).trans rfl)
    simpa [Addr.add] using this
theorem one_int (n : Int) : ∀ u ∈ [Value.int .i64 n], u.oneCell' = true := by
  intro u hu; simp at hu; subst hu; rfl
theorem size_alloc (w : World) (o : Obj) : (w.alloc o).heap.size = w.heap.size + 1 := by show (w.heap.push o).size = _; simp
theorem IntsAt.cells {w : World} {b : Nat} {t : TypeId} {f : Nat × Nat} (l : List Int) (h : w.heap[b]? = some (.cells (l.map (Value.int .i64)).toArray t f)) : IntsAt w (some ⟨b, 0, none⟩) l := by
  intro i hi
  refine ⟨b, 0, _, rfl, ?_, rfl⟩
  rw [cell_of_heap h]
  simp [hi]
end Go.Proofs.YtppncdbhebgcaaaGreatDoor
namespace Go.Proofs.YtppncdbhebgcaaaGreatDoor
open Go.RowKit

/-- The table of TrailingZeros64 lies in its variable. -/
def TabW (w : World) : Prop := ∀ j, j < 64 → w.cell? ⟨0, j, none⟩ = some (.int .u8 (Lib.deBruijn64tab.getD j 0))
theorem TabW.ext {w w' : World} (h : TabW w) (hE : Ext w w') : TabW w' := fun j hj => hE.cell (h j hj)
theorem TabW.pos {w : World} (h : TabW w) : 0 < w.heap.size := lt_of_cell (h 0 (by decide))
theorem TabW.ups {w w' : World} {b : Nat} (h : TabW w) (hU : Ups b w w') (hb : b ≠ 0) : TabW w' := fun j hj => hU.cell (h j hj) (fun e => hb e.symm)

set_option maxHeartbeats 1000000 in
theorem tz04_core (x k idx : Nat) (w : World) (hx0 : ((x : Int) == 0) = false)
    (key : IntKind.u64.wrap (bits BinOp.and IntKind.u64 (x : Int) (IntKind.u64.wrap (-(x : Int))) * 285870213051353865) / 288230376151711744 = (idx : Int))
    (hi : idx < 64) (hk : k < 64) (hcell : w.cell? ⟨0, idx, none⟩ = some (.int .u8 k)) :
    Calls Tryz.prog 128 #[.int .u64 x] w (RetE (.int .i64 k) w) := by
  go_enter Tryz.func128, Tryz.ntmps128
  go_wp2_with (simp only [key])
  go_ret
  exact RetE.fin (Ext.refl _) rfl

theorem tz04 (x : Nat) (hx0 : x ≠ 0) (hx : x < 18446744073709551616) (w : World) (hT : TabW w) :
    Calls Tryz.prog 128 #[.int .u64 x] w (RetE (.int .i64 (Lib.ctz 64 x)) w) := by
  obtain ⟨hlow, hk⟩ := Lib.lowest_bit 64 x hx0 hx
  obtain ⟨hi, htab⟩ := Lib.deBruijn64_at _ hk
  have hcell := hT _ hi
  rw [htab] at hcell
  exact tz04_core x _ _ w (by simp; omega) (tz64_key x _ hx hx0 hlow) hi hk hcell
end Go.Proofs.YtppncdbhebgcaaaGreatDoor
namespace Go.Proofs.YtppncdbhebgcaaaGreatDoor
open Go.RowKit

/-- the numbers of a set that are less than n -/
def bitsTo (S n : Nat) : List Int := ((List.range n).filter S.testBit).map fun t : Nat => (t : Int)
theorem bitsTo_succ (S n : Nat) : bitsTo S (n + 1) = bitsTo S n ++ (if S.testBit n then [(n : Int)] else []) := by
  unfold bitsTo
  rw [List.range_succ, List.filter_append, List.map_append]
  congr 1
  by_cases h : S.testBit n = true
  · simp [h]
  · simp [h]
theorem bitsTo_len (S n : Nat) : (bitsTo S n).length ≤ n := by
  unfold bitsTo
  rw [List.length_map]
  exact Nat.le_trans (List.length_filter_le _ _) (by simp)
theorem bitsTo_skip (S a : Nat) : ∀ b, a ≤ b → (∀ t, a ≤ t → t < b → S.testBit t = false) → bitsTo S b = bitsTo S a := by
  intro b
  induction b with
  | zero => intro h _; obtain rfl : a = 0 := by omega
            rfl
  | succ b ih =>
    intro h ht
    by_cases e : a = b + 1
    · rw [e]
    · rw [bitsTo_succ, ht b (by omega) (by omega), ih (by omega) (fun t h1 h2 => ht t h1 (by omega))]
      simp
def bitsI (S : Nat) : List Int := bitsTo S 1536
theorem bitsI_eq (S : Nat) : bitsI S = (bitsN S).map fun t : Nat => (t : Int) := rfl

/-- the bits of x from j on -/
def hiB (x j : Nat) : Nat := 2 ^ j * (x / 2 ^ j)
theorem testBit_hiB {x j t : Nat} : (hiB x j).testBit t = (decide (j ≤ t) && x.testBit t) := by
  unfold hiB
  have h : 2 ^ j * (x / 2 ^ j) = 2 ^ j * (x / 2 ^ j) + 0 := rfl
  rw [h, Nat.testBit_two_pow_mul_add _ (Nat.two_pow_pos j)]
  by_cases ht : t < j
  · rw [if_pos ht, decide_eq_false (by omega)]; simp
  · rw [if_neg ht, decide_eq_true (by omega), ← Nat.shiftRight_eq_div_pow, Nat.testBit_shiftRight, Bool.true_and, show j + (t - j) = t by omega]
theorem hiB_zero (x : Nat) : hiB x 0 = x := by unfold hiB; simp
theorem hiB_lt {x j : Nat} (h : x < 18446744073709551616) : hiB x j < 18446744073709551616 := Nat.lt_of_le_of_lt (Nat.mul_div_le _ _) h

theorem low_step {x j : Nat} (hy : hiB x j ≠ 0) (hx : x < 18446744073709551616) :
    j ≤ Lib.ctz 64 (hiB x j) ∧ Lib.ctz 64 (hiB x j) < 64 ∧ x.testBit (Lib.ctz 64 (hiB x j)) = true ∧ (∀ t, j ≤ t → t < Lib.ctz 64 (hiB x j) → x.testBit t = false) ∧
      hiB x j &&& (hiB x j - 1) = hiB x (Lib.ctz 64 (hiB x j) + 1) := by
  have hb : ∀ t, (hiB x j).testBit t = (decide (j ≤ t) && x.testBit t) := fun t => testBit_hiB
  have hlt := hiB_lt (j := j) hx
  have hc : Lib.ctz 64 (hiB x j) = Lib.ctzFrom 64 (hiB x j) := by unfold Lib.ctz; rw [if_neg hy]
  rw [hc]
  obtain ⟨m, h1, h2⟩ := Lib.ctzFrom_spec 64 (hiB x j) (by omega) hlt
  generalize Lib.ctzFrom 64 (hiB x j) = k at h1 h2 ⊢
  have hpos : 0 < 2 ^ k := Nat.two_pow_pos k
  have e1 : hiB x j = 2 ^ (k + 1) * m + 2 ^ k := by rw [h1, Nat.pow_succ, Nat.mul_add, Nat.mul_one, Nat.mul_assoc]
  have hk : ∀ t, (hiB x j).testBit t = if t < k + 1 then decide (k = t) else m.testBit (t - (k + 1)) := by
    intro t
    rw [e1, Nat.testBit_two_pow_mul_add _ (by rw [Nat.pow_succ]; omega)]
    split
    · rw [Nat.testBit_two_pow]
    · rfl
  have h3 := hk k
  rw [if_pos (by omega), hb, decide_eq_true rfl, Bool.and_eq_true, decide_eq_true_eq] at h3
  refine ⟨h3.1, h2, h3.2, fun t ht1 ht2 => ?_, ?_⟩
  · have h4 := hk t
    rw [if_pos (by omega), hb, decide_eq_true ht1, Bool.true_and] at h4
    rw [h4]; exact decide_eq_false (by omega)
  · apply Nat.eq_of_testBit_eq
    intro t
    have e2 : hiB x j - 1 = 2 ^ (k + 1) * m + (2 ^ k - 1) := by omega
    rw [Nat.testBit_and, hk t, e2, Nat.testBit_two_pow_mul_add _ (by rw [Nat.pow_succ]; omega), testBit_hiB]
    by_cases ht : t < k + 1
    · rw [if_pos ht, if_pos ht, Nat.testBit_two_pow_sub_one, decide_eq_false (show ¬k + 1 ≤ t by omega), Bool.false_and]
      by_cases e : k = t
      · rw [decide_eq_false (show ¬t < k by omega), Bool.and_false]
      · rw [decide_eq_false e, Bool.false_and]
    · rw [if_neg ht, if_neg ht, Bool.and_self, decide_eq_true (show k + 1 ≤ t by omega), Bool.true_and]
      have h4 := hk t
      rw [if_neg ht, hb, decide_eq_true (by omega), Bool.true_and] at h4
      exact h4.symm
theorem low_end {x j : Nat} (hy : hiB x j = 0) : ∀ t, j ≤ t → x.testBit t = false := by
  intro t ht
  have h := testBit_hiB (x := x) (j := j) (t := t)
  rw [hy, Nat.zero_testBit, decide_eq_true ht, Bool.true_and] at h
  exact h.symm

/-- One number more of a word. -/
theorem bits_word {S i j k : Nat} (hk : k < 64) (h1 : (wd S i).testBit k = true) (h2 : ∀ t, j ≤ t → t < k → (wd S i).testBit t = false) (hj : j ≤ k) : bitsTo S (64 * i + (k + 1)) = bitsTo S (64 * i + j) ++ [((64 * i + k : Nat) : Int)] := by
  have e : S.testBit (64 * i + k) = true := by
    rw [testBit_wd, decide_eq_true hk, Bool.true_and] at h1; exact h1
  rw [show 64 * i + (k + 1) = (64 * i + k) + 1 by omega, bitsTo_succ, e, bitsTo_skip S (64 * i + j) (64 * i + k) (by omega) (fun t ht1 ht2 => by
    have := h2 (t - 64 * i) (by omega) (by omega)
    rw [testBit_wd, decide_eq_true (by omega), Bool.true_and, show 64 * i + (t - 64 * i) = t by omega] at this
    exact this)]
  rfl
theorem bits_rest {S i j : Nat} (hj : j ≤ 64) (h : ∀ t, j ≤ t → (wd S i).testBit t = false) : bitsTo S (64 * (i + 1)) = bitsTo S (64 * i + j) :=
  bitsTo_skip S _ _ (by omega) (fun t ht1 ht2 => by
    have := h (t - 64 * i) (by omega)
    rw [testBit_wd, decide_eq_true (by omega), Bool.true_and, show 64 * i + (t - 64 * i) = t by omega] at this
    exact this)
end Go.Proofs.YtppncdbhebgcaaaGreatDoor
namespace Go.Proofs.YtppncdbhebgcaaaGreatDoor
open Go.RowKit

set_option maxRecDepth 20000 in
set_option maxHeartbeats 3200000 in
theorem all04 (S : Nat) (w : World) (hT : TabW w) : Calls Tryz.prog 87 #[setV S] w
    (fun e w' => ∃ v, e = .returned v ∧ w'.ownsRow w.heap.size 3 1 v (bitsI S).length (intVs (bitsI S)) ∧ Ext w w') := by
  unfold setV
  obtain ⟨i0, hi, hz0, hz1, hz2⟩ := info_parts info_a
  have HT := Lib.hid hT
  clear hT
  go_enter Tryz.func87, Tryz.ntmps87
  go_upto_region 2 with (fail)
  obtain ⟨W, hW⟩ : ∃ W, W = w.alloc (.cells (rowV 24 .u64 (setF S)) 137) := ⟨_, rfl⟩
  have h2 : Blk W w.heap.size 137 24 .u64 (setF S) := by rw [hW]; exact Blk.new' rfl _ _ _ _
  have hE : Ext w W := by rw [hW]; exact (by repeat (first | exact Ext.refl _ | assumption | refine Ext.drewN ?_ _ | refine Ext.drew ?_ | refine Ext.alloc ?_ _))
  rw [← hW]
  refine wp_region_lit (wpList_loadB 137 _ _ Tryz.underlying137 rfl iSet rfl rfl rfl h2 (Nat.le_refl _) ?_)
  rw [show (fun j => setF S (0 + j)) = setF S from funext (fun j => by rw [Nat.zero_add])]
  have HE := Lib.hid hE
  clear hW h2 hE
  go_wp2
  go_loopw [3, 7] (fun u i wr => ∃ k : Nat, k ≤ 24 ∧ i = .int .i64 k ∧ Ext w wr ∧ wr.ownsRow w.heap.size 3 1 u (bitsTo S (64 * k)).length (intVs (bitsTo S (64 * k)))) (fun _ i _ => 24 - (intOf i).toNat)
  case atStart => exact ⟨0, by omega, rfl, HE.out, World.ownsRow_nil _ _ _ _⟩
  case round =>
    obtain ⟨k, hk, rfl, hE, hO⟩ := hrel
    have HE := Lib.hid hE
    have HO := Lib.hid hO
    clear hE hO
    by_cases hlt : k < 24
    · have hlt' : (k : Int) < 24 := by omega
      have hc := index_setV (setF S) k hlt wr
      go_wp2
      go_loopw [3, 5] (fun u x wr2 => ∃ j : Nat, j ≤ 64 ∧ x = .int .u64 (hiB (wd S k) j : Nat) ∧ Ext w wr2 ∧ wr2.ownsRow w.heap.size 3 1 u (bitsTo S (64 * k + j)).length (intVs (bitsTo S (64 * k + j)))) (fun _ x _ => (intOf x).toNat)
      case atStart => exact ⟨0, by omega, by rw [hiB_zero]; rfl, HE.out, HO.out⟩
      case round =>
        obtain ⟨j, hj, rfl, hE2, hO2⟩ := hrel
        have HE2 := Lib.hid hE2
        have HO2 := Lib.hid hO2
        clear hE2 hO2 HE HO hc
        by_cases hy : hiB (wd S k) j = 0
        · have HR := Lib.hid (bits_rest hj (low_end hy))
          rw [hy]
          clear hy
          go_wp2
          go_roundw
          case rel => exact ⟨k + 1, by omega, by simp, HE2.out, by rw [HR.out]; exact HO2.out⟩
          case measure => simp [intOf]; omega
        · obtain ⟨l1, l2, l3, l4, l5⟩ := low_step hy wd_lt
          have hlt64 := hiB_lt (j := j) (@wd_lt S k)
          have HC := Lib.hid (tz04 _ hy hlt64 wr (HT.out.ext HE2.out))
          have hand : hiB (wd S k) (Lib.ctz 64 (hiB (wd S k) j) + 1) < hiB (wd S k) j := by
            rw [← l5]
            have := @Nat.and_le_right (hiB (wd S k) j) (hiB (wd S k) j - 1)
            omega
          generalize Lib.ctz 64 (hiB (wd S k) j) = c at l1 l2 l3 l4 l5 HC hand
          have HB := Lib.hid (bits_word l2 l3 l4 l1)
          obtain ⟨y, hyy⟩ : ∃ y, y = hiB (wd S k) j := ⟨_, rfl⟩
          obtain ⟨z, hzz⟩ : ∃ z, z = hiB (wd S k) (c + 1) := ⟨_, rfl⟩
          rw [← hyy] at hy hlt64 l5 HC hand ⊢
          rw [← hzz] at l5 hand
          have hsub : IntKind.u64.wrap ((y : Int) - 1) = ((y - 1 : Nat) : Int) := by rw [IntKind.wrap_u64]; omega
          have hw : bits .and .u64 (y : Int) (IntKind.u64.wrap ((y : Int) - 1)) = (z : Int) := by
            rw [hsub, u64_and_nat _ _ hlt64 (by omega), l5]
          have hne : ((y : Int) == 0) = false := by simp; omega
          have hne2 : decide ((y : Int) = 0) = false := by simp; omega
          have hne3 : decide (y = 0) = false := by simp; omega
          have hlen := bitsTo_len S (64 * k + j)
          have HL := Lib.hid hand
          have HZ := Lib.hid hzz
          clear l1 l3 l4 l5 hand hyy hzz hsub hlt64 hy
          have hcc : (c : Int) < 64 := by omega
          go_wp2_with fail
          refine HC.out.mono ?_
          rintro e w2 ⟨rfl, hE3⟩
          have HO3 := Lib.hid (ownsRow_ext HO2.out hE3)
          have HE3 := Lib.hid (HE2.out.trans hE3)
          have hsz3 := HE3.out.size
          clear hE3
          go_wp2_with (at_builtin; refine wpList_append_lies _ rfl (.tmp 17) (.tmp 23) 23 rfl w.heap.size 3 i0 (.int .i64 0) 1 8 Tryz.underlying23 hi hz0 hz1 hz2 rfl (by decide) _ (bitsTo S (64 * k + j)).length _ rfl (HO3.out.alloc _) ⟨w2.heap.size, 0, none⟩ 1 1 [.int .i64 (64 * (k : Int) + (c : Int))] rfl rfl ?c1 ?c2 (by decide) ?c3 ?c4 ?c5 (w2.heap.size + 1) (size_alloc _ _) ?_)
          case c1 =>
            intro j u hj
            match j, hj with
            | 0, hj => simp at hj; subst hj; simp [Addr.add]
          case c2 => intro u hu; simp at hu; subst hu; rfl
          case c3 => unfold maxLen; omega
          case c4 => omega
          case c5 => rw [size_alloc]; omega
          intro g4 cap4 w4 hown4 hgr4 hat4 hlt4
          have hE4 : Ext w w4 := Below.grown (HE3.out.alloc _) hgr4 (by rw [size_alloc]; omega) (fun j hj => (HO3.out.lt j hj).1)
          have hb := HB.out
          have hn : ((64 * k + c : Nat) : Int) = 64 * (k : Int) + (c : Int) := by omega
          rw [hn] at hb
          have HO4 := Lib.hid (show w4.ownsRow w.heap.size 3 1 (.slice (some ⟨g4, 0, none⟩) ((bitsTo S (64 * k + j)).length + 1) cap4) (bitsTo S (64 * k + (c + 1))).length (intVs (bitsTo S (64 * k + (c + 1)))) from by
            rw [hb, intVs_snoc, List.length_append]; exact hown4)
          have HE4 := Lib.hid hE4
          clear hown4 hgr4 hat4 hlt4 hE4 HO3 HE3 hsz3 hb hn HO2 HE2 HB HC hlen
          go_wp2
          go_roundw
          case rel => exact ⟨c + 1, by omega, by rw [HZ.out], HE4.out, HO4.out⟩
          case measure => have := HL.out; simp [intOf]; omega
    · obtain rfl : k = 24 := by omega
      go_wp2
      go_ret
      exact ⟨_, rfl, HO.out, HE.out⟩
end Go.Proofs.YtppncdbhebgcaaaGreatDoor
namespace Go.Proofs.YtppncdbhebgcaaaGreatDoor
open Go.RowKit

theorem iMasks : (Tryz.prog.info? 180).map (·.size) = some 2400 := by kernel_rfl
theorem zero2400 : Tryz.zeroCells180 = rowV 2400 .u64 (fun _ => 0) := by kernel_rfl

/-- the numbers below k that have a rest -/
def mskTo (r : Nat) : Nat → Nat
  | 0 => 0
  | k + 1 => if k % 100 = r then mskTo r k ||| 2 ^ k else mskTo r k
theorem testBit_mskTo (r : Nat) : ∀ k t, (mskTo r k).testBit t = (decide (t < k) && decide (t % 100 = r)) := by
  intro k
  induction k with
  | zero => intro t; simp [mskTo]
  | succ k ih =>
    intro t
    rw [mskTo]
    split
    · rename_i h
      rw [Nat.testBit_or, ih, Nat.testBit_two_pow]
      by_cases e : k = t
      · subst e
        simp [h]
      · have e1 : decide (t < k) = decide (t < k + 1) := by apply Bool.eq_iff_iff.2; simp; omega
        rw [e1, decide_eq_false e, Bool.or_false]
    · rename_i h
      rw [ih]
      by_cases e : k = t
      · subst e
        simp [h]
      · have e1 : decide (t < k) = decide (t < k + 1) := by apply Bool.eq_iff_iff.2; simp; omega
        rw [e1]
theorem mskTo_all {r : Nat} (hr : r < 100) : mskTo r 1536 = maskN r := by
  apply Nat.eq_of_testBit_eq
  intro t
  rw [testBit_mskTo, testBit_maskN hr]
theorem wd_pow {k i : Nat} : wd (2 ^ k) i = if i = k / 64 then 2 ^ (k % 64) else 0 := by
  apply Nat.eq_of_testBit_eq
  intro t
  rw [testBit_wd, Nat.testBit_two_pow]
  split
  · rw [Nat.testBit_two_pow]
    by_cases ht : t < 64
    · rw [decide_eq_true ht, Bool.true_and]
      apply Bool.eq_iff_iff.2
      simp; omega
    · rw [decide_eq_false ht, Bool.false_and, decide_eq_false (by omega)]
  · rw [Nat.zero_testBit]
    by_cases ht : t < 64
    · rw [decide_eq_true ht, Bool.true_and, decide_eq_false (by omega)]
    · rw [decide_eq_false ht, Bool.false_and]
def mskF : Nat → Int := fun i => setF (maskN (i / 24)) (i % 24)
def mskK (k : Nat) : Nat → Int := fun i => setF (mskTo (i / 24) k) (i % 24)
theorem mskK_step {k j : Nat} (hk : k < 1536) : (if j = 24 * (k % 100) + k / 64 then bits .or .u64 (mskK k j) ((2 ^ (k % 64) : Nat) : Int) else mskK k j) = mskK (k + 1) j := by
  unfold mskK setF
  have hp : 2 ^ (k % 64) < 18446744073709551616 := Nat.pow_lt_pow_right (a := 2) (n := 64) (by decide) (Nat.mod_lt _ (by decide))
  split
  · rename_i e
    have e1 : j / 24 = k % 100 := by omega
    have e2 : j % 24 = k / 64 := by omega
    rw [u64_or_nat _ _ wd_lt hp, mskTo, if_pos e1.symm, wd_or, wd_pow, if_pos e2]
  · rename_i e
    rw [mskTo]
    by_cases e1 : k % 100 = j / 24
    · rw [if_pos e1, wd_or, wd_pow, if_neg (by omega), Nat.or_zero]
    · rw [if_neg e1]

set_option maxRecDepth 20000 in
set_option maxHeartbeats 3200000 in
theorem masks04 (w : World) : Calls Tryz.prog 124 #[] w (RetE (.agg (rowV 2400 .u64 mskF)) w) := by
  go_enter Tryz.func124, Tryz.ntmps124
  go_upto_region 1 with (fail)
  rw [zero2400]
  obtain ⟨W, hW⟩ : ∃ W, W = w.alloc (.cells (rowV 2400 .u64 (fun _ => 0)) 180) := ⟨_, rfl⟩
  have h2 : Blk W w.heap.size 180 2400 .u64 (mskK 0) := by
    rw [hW]
    refine (Blk.new' rfl _ _ _ _).congr (fun j _ => ?_)
    unfold mskK mskTo setF
    rw [wd_zero]; rfl
  have hE : Ext w W := by rw [hW]; exact (by repeat (first | exact Ext.refl _ | assumption | refine Ext.drewN ?_ _ | refine Ext.drew ?_ | refine Ext.alloc ?_ _))
  rw [← hW]
  have HE := Lib.hid hE
  have H2 := Lib.hid h2
  clear hW h2 hE
  go_wp2
  go_loopw [2] (fun i wr => ∃ k : Nat, k ≤ 1536 ∧ i = .int .i64 k ∧ Ext w wr ∧ Blk wr w.heap.size 180 2400 .u64 (mskK k)) (fun i _ => 1536 - (intOf i).toNat)
  case atStart => exact ⟨0, by omega, rfl, HE.out, H2.out⟩
  case round =>
    obtain ⟨k, hk, rfl, hE, h2⟩ := hrel
    by_cases hlt : k < 1536
    · have hlt' : (k : Int) < 1536 := by omega
      have HE := Lib.hid hE
      have hput := put04 wr w.heap.size 180 2400 (mskK k) (k % 100 * 24) k h2 (by omega) hlt
      have HP := Lib.hid hput
      obtain ⟨r, hr⟩ : ∃ r, r = k % 100 := ⟨_, rfl⟩
      have hr1 : (k : Int) % 100 = (r : Int) := by omega
      have hr2 : (r : Int) < 100 := by omega
      rw [← hr] at HP
      have HR := Lib.hid hr
      clear h2 hE hput hr
      go_wp2_with fail
      refine HP.out.mono ?_
      rintro e w2 ⟨rfl, hU, hB⟩
      have HE2 := Lib.hid (HE.out.ups hU (Nat.le_refl _))
      have HB2 := Lib.hid (hB.congr (g := mskK (k + 1)) (fun j _ => by rw [HR.out, Nat.mul_comm, mskK_step hlt]))
      clear hU hB HP HE HR
      go_wp2
      go_roundw
      case rel => exact ⟨k + 1, by omega, by simp, HE2.out, HB2.out⟩
      case measure => simp [intOf]; omega
    · obtain rfl : k = 1536 := by omega
      have hm := h2.congr (g := mskF) (fun j hj => by unfold mskK mskF; rw [mskTo_all (by omega)])
      have HE := Lib.hid hE
      have HM := Lib.hid hm
      clear hE h2 hm
      go_upto_region 6 with (fail)
      refine wp_region_lit (wpList_loadB 180 _ _ Tryz.underlying180 rfl iMasks rfl rfl rfl HM.out (Nat.le_refl _) ?_)
      refine wpList_storeB 180 _ _ iMasks rfl rfl rfl rfl HM.out (Nat.le_refl _) ?_
      refine wpList_nil ?_
      have HF := Lib.hid (HM.out.sets 0 (fun j => mskF (0 + j)) 2400)
      have HFE : Ext w _ := Ext.setCells (b := w.heap.size) HE.out (by omega) 0 (rowV 2400 .u64 (fun j => mskF (0 + j))).toList
      generalize World.setCells wr _ _ _ = W9 at HF HFE ⊢
      have HG := Lib.hid (HF.out.congr (g := mskF) (fun j hj => by simp only [Nat.sub_zero, Nat.zero_add]; rw [if_pos ⟨Nat.zero_le _, hj⟩]))
      have HFE := Lib.hid HFE
      go_wp2
      exact ret_row 180 _ rfl rfl HG.out Tryz.underlying180 rfl iMasks rfl (RetE.fin HFE.out rfl)
end Go.Proofs.YtppncdbhebgcaaaGreatDoor
