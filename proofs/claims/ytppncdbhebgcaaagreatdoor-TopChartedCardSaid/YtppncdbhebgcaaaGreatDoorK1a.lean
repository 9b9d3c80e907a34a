
/- TopCharted: the box with the hits: plain law. -/
import Derived.Test.YtppncdbhebgcaaaGreatDoorCA
import Derived.Test.YtppncdbhebgcaaaGreatDoorSB
namespace Go.Proofs.YtppncdbhebgcaaaGreatDoor
open Go.RowKit

theorem perm_sum {l l' : List Int} (h : l.Perm l') : l.sum = l'.sum := by
  induction h with
  | nil => rfl
  | cons a _ ih => rw [List.sum_cons, List.sum_cons, ih]
  | swap a b l => simp only [List.sum_cons]; omega
  | trans _ _ h1 h2 => exact h1.trans h2
theorem take_step {a : Int} {c : List Int} (h : ∀ y ∈ c, y ≤ a) (ha : 0 ≤ a) (k : Nat) : (c.take (k + 1)).sum ≤ a + (c.take k).sum := by
  rcases Nat.lt_or_ge k c.length with hk | hk
  · rw [List.take_succ_eq_append_getElem hk, List.sum_append]
    have := h _ (List.getElem_mem hk)
    simp
    omega
  · rw [List.take_of_length_le (by omega), List.take_of_length_le hk]
    omega
/-- the greatest numbers come first -/
theorem sub_take {d c : List Int} (h : d.Sublist c) (hp : c.Pairwise (· ≥ ·)) (h0 : ∀ y ∈ c, 0 ≤ y) : d.sum ≤ (c.take d.length).sum := by
  induction h with
  | slnil => exact Int.le_refl _
  | @cons l1 l2 a h ih =>
    have h2 := ih (List.pairwise_cons.1 hp).2 (fun y hy => h0 y (List.mem_cons_of_mem _ hy))
    cases hl : l1.length with
    | zero =>
      obtain rfl : l1 = [] := List.length_eq_zero_iff.1 hl
      simp
    | succ k =>
      rw [hl] at h2
      rw [List.take_succ_cons, List.sum_cons]
      have := take_step (fun y hy => (List.pairwise_cons.1 hp).1 y hy) (h0 a List.mem_cons_self) k
      omega
  | @cons_cons l1 l2 a h ih =>
    have h2 := ih (List.pairwise_cons.1 hp).2 (fun y hy => h0 y (List.mem_cons_of_mem _ hy))
    rw [List.length_cons, List.take_succ_cons, List.sum_cons, List.sum_cons]
    omega
/-- the numbers of the first ranks together -/
def topSum (n : Nat) (x : Nat → Int) (s : Nat) : Int := ((List.range s).map fun k : Nat => cutN n x ((k : Int) + 1)).sum
theorem topSum_succ (n : Nat) (x : Nat → Int) (s : Nat) : topSum n x (s + 1) = topSum n x s + cutN n x ((s : Int) + 1) := by
  unfold topSum
  rw [List.range_succ, List.map_append, List.sum_append]
  simp
theorem top_take {n s : Nat} {x : Nat → Int} {π : List Nat} (h : IsOrd n x π) (hs : s ≤ n) : topSum n x s = ((π.map x).take s).sum := by
  unfold topSum
  congr 1
  have hl := h.len
  refine List.ext_getElem (by simp; omega) fun k h1 h2 => ?_
  have hk : k < s := by simpa using h1
  have hk2 : k < π.length := by omega
  rw [List.getElem_map, List.getElem_range, List.getElem_take, List.getElem_map]
  unfold cutN
  have he := atN_of (n := n) (x := x) (k := k + 1) (h.lt hk2) (h.rank hk2)
  rw [show (((k + 1 : Nat) : Nat) : Int) = (k : Int) + 1 by omega] at he
  rw [he, Int.toNat_natCast]
theorem ord_desc {n : Nat} {x : Nat → Int} {π : List Nat} (h : IsOrd n x π) : (π.map x).Pairwise (· ≥ ·) := by
  rw [List.pairwise_map]
  refine (chain_pairwise π none h.2).imp fun {i j} hij => ?_
  unfold ahd at hij
  simp only [Bool.or_eq_true, decide_eq_true_eq, Bool.and_eq_true] at hij
  show x i ≥ x j
  omega
/-- the sum over a set -/
def maskSum (n : Nat) (x : Nat → Int) (m : Nat) : Int := (((List.range n).filter m.testBit).map x).sum
theorem mask_le {n s : Nat} {x : Nat → Int} (hs : s ≤ n) (hx : ∀ i, i < n → 0 ≤ x i) {m : Nat} (hm : ((List.range n).filter m.testBit).length = s) : maskSum n x m ≤ topSum n x s := by
  obtain ⟨π, hπ⟩ := ord_ex n x
  have hp : ((π.filter m.testBit).map x).Perm (((List.range n).filter m.testBit).map x) := (hπ.1.filter _).map x
  have hl : ((π.filter m.testBit).map x).length = s := by rw [hp.length_eq, List.length_map, hm]
  have h2 := sub_take ((List.filter_sublist (p := m.testBit) (l := π)).map x) (ord_desc hπ) (fun y hy => by
    obtain ⟨i, hi, rfl⟩ := List.mem_map.1 hy
    exact hx i (List.mem_range.1 (hπ.1.subset hi)))
  rw [hl, ← top_take hπ hs, perm_sum hp] at h2
  exact h2
theorem mask_ex (p : Nat → Bool) : ∀ n, ∃ m, m < 2 ^ n ∧ ∀ t, t < n → m.testBit t = p t
  | 0 => ⟨0, by decide, fun t h => absurd h (by omega)⟩
  | n + 1 => by
    obtain ⟨m, h1, h2⟩ := mask_ex p n
    have hpw : 2 ^ (n + 1) = 2 ^ n + 2 ^ n := by rw [Nat.pow_succ]; omega
    cases hp : p n with
    | false =>
      refine ⟨m, by omega, fun t ht => ?_⟩
      by_cases e : t = n
      · subst e; rw [hp]; exact Nat.testBit_lt_two_pow h1
      · exact h2 t (by omega)
    | true =>
      refine ⟨2 ^ n + m, by omega, fun t ht => ?_⟩
      by_cases e : t = n
      · subst e
        rw [hp, Nat.testBit_two_pow_add_eq, Nat.testBit_lt_two_pow h1]
        rfl
      · rw [Nat.testBit_two_pow_add_gt (by omega)]
        exact h2 t (by omega)
theorem mask_top {n s : Nat} {x : Nat → Int} (hs : s ≤ n) : ∃ m, m < 2 ^ n ∧ ((List.range n).filter m.testBit).length = s ∧ maskSum n x m = topSum n x s := by
  obtain ⟨π, hπ⟩ := ord_ex n x
  obtain ⟨m, h1, h2⟩ := mask_ex (fun t => decide (t ∈ π.take s)) n
  have hnd : π.Nodup := hπ.1.nodup_iff.2 List.nodup_range
  have hf : π.filter m.testBit = π.take s := by
    have e : π.filter m.testBit = π.filter (fun t => decide (t ∈ π.take s)) := List.filter_congr fun t ht => h2 t (List.mem_range.1 (hπ.1.subset ht))
    have hsp : π = π.take s ++ π.drop s := (List.take_append_drop s π).symm
    have hd : ∀ t ∈ π.drop s, t ∉ π.take s := by
      intro t ht ht2
      rw [hsp] at hnd
      exact (List.nodup_append.1 hnd).2.2 t ht2 t ht rfl
    rw [e]
    have e2 : π.filter (fun t => decide (t ∈ π.take s)) = (π.take s ++ π.drop s).filter (fun t => decide (t ∈ π.take s)) := congrArg _ hsp
    rw [e2, List.filter_append, List.filter_eq_self.2 (fun t ht => by simpa using ht), List.filter_eq_nil_iff.2 (fun t ht => by simpa using hd t ht), List.append_nil]
  have hp := hπ.1.filter m.testBit
  refine ⟨m, h1, ?_, ?_⟩
  · rw [← hp.length_eq, hf, List.length_take, hπ.len]
    omega
  · unfold maskSum
    rw [← perm_sum (hp.map x), hf, top_take hπ hs, List.map_take]
theorem popc_range {n m : Nat} (hn : n ≤ 6) (hm : m < 2 ^ n) : Sw7.popc m = ((List.range n).filter m.testBit).length := by
  unfold Sw7.popc
  rw [show (6 : Nat) = n + (6 - n) by omega, List.range_add, List.filter_append, List.length_append]
  have : ((List.range (6 - n)).map fun x => n + x).filter m.testBit = [] := List.filter_eq_nil_iff.2 fun t ht => by
    obtain ⟨i, -, rfl⟩ := List.mem_map.1 ht
    rw [Nat.testBit_lt_two_pow (Nat.lt_of_lt_of_le hm (Nat.pow_le_pow_right (by omega) (by omega)))]
    decide
  rw [this]
  simp

theorem dif_bit7 : ∀ a, a < 64 → ∀ b, b < 64 → ∀ t, t < 6 → (Sw7.dif a b).testBit t = (a.testBit t && !b.testBit t) := by decide +kernel
/-- the box with the hits -/
def boxS (x : Nat → Int) (n s : Nat) : Sw7.Swap := ⟨[(List.range s).map fun i : Nat => (i : Int)], List.replicate n 1, (List.range n).map fun i => [x i], [], s⟩
section
variable {x : Nat → Int} {n s : Nat} (hn : n ≤ 6) (hs : s ≤ 3) (hsn : s ≤ n) (hx : ∀ i, i < n → 0 ≤ x i ∧ x i ≤ 999)
theorem box_earn (m : Nat) : ∀ k, k ≤ n → Sw7.earnTo (boxS x n s).earn m 0 k = maskSum k x m
  | 0, _ => rfl
  | k + 1, h => by
    have hk : k < n := by omega
    unfold Sw7.earnTo
    rw [box_earn m k (by omega)]
    have e : ((boxS x n s).earn.getD k []).getD 0 0 = x k := by simp [boxS, hk, List.getD_eq_getElem?_getD]
    rw [e]
    unfold maskSum
    rw [List.range_succ, List.filter_append, List.map_append, List.sum_append]
    by_cases hb : m.testBit k = true
    · rw [if_pos hb]
      simp [hb]
    · rw [if_neg hb]
      simp [hb]
theorem box_len : (boxS x n s).earn.length = n := by simp [boxS]
include hn hs hsn hx
theorem box_valid : Sw7.Valid (boxS x n s) := by
  refine ⟨by show 1 ≤ 3; omega, by simp [boxS]; omega, by simp [boxS], by show 0 ≤ 4; omega, ⟨by show (0 : Int) ≤ (s : Int); omega, by show (s : Int) ≤ 3; omega⟩, fun i h => ?_, fun i h => ?_, fun i h => ?_, fun i h k hk => ?_, fun i h => absurd h (by simp [boxS])⟩
  · have hi : i < 1 := h
    obtain rfl : i = 0 := by omega
    have e : (boxS x n s).boxes[0]'h = (List.range s).map fun i : Nat => (i : Int) := rfl
    have hsl : (boxS x n s).stock.length = n := by simp [boxS]
    rw [e, hsl]
    refine ⟨by simp; omega, fun j hj => ?_, fun j hj => ?_⟩
    · have : j < s := by simpa using hj
      rw [List.getElem_map, List.getElem_range]
      omega
    · rw [List.getElem_map, List.getElem_range, List.getElem_map, List.getElem_range]
      omega
  · have : (boxS x n s).stock[i] = 1 := by simp [boxS]
    rw [this]
    decide
  · have : (boxS x n s).earn[i] = [x i] := by simp [boxS]
    rw [this]
    rfl
  · have hi : i < n := by simpa [boxS] using h
    have e : (boxS x n s).earn[i] = [x i] := by simp [boxS]
    have hk2 : k < 1 := by rw [e] at hk; exact hk
    obtain rfl : k = 0 := by omega
    have e2 : (boxS x n s).earn[i][0] = x i := by simp [boxS]
    rw [e2]
    exact hx i hi
theorem box_plan {p : Nat → Nat} (hp : p ∈ Sw7.allP (Sw7.openV (boxS x n s))) : maskSum n x (p 0) ≤ topSum n x s ∧ Sw7.sumTo (Sw7.openV (boxS x n s)) p 1 = maskSum n x (p 0) ∧ Sw7.leastTo (Sw7.openV (boxS x n s)) p 1 = maskSum n x (p 0) := by
  have hO := Sw7.openV_ok (box_valid hn hs hsn hx)
  have hP := (Sw7.mem_allP hO p).1 hp
  have hb := hP.box 0 (by show 0 < 1; omega)
  have hsl : (Sw7.openV (boxS x n s)).S.stock.length = n := by simp [Sw7.openV, boxS]
  have hbl : ((Sw7.openV (boxS x n s)).S.boxes.getD 0 []).length = s := by simp [Sw7.openV, boxS]
  rw [hsl, hbl] at hb
  have he : Sw7.earnTo (Sw7.openV (boxS x n s)).S.earn (p 0) 0 (Sw7.openV (boxS x n s)).S.earn.length = maskSum n x (p 0) := by
    show Sw7.earnTo (boxS x n s).earn (p 0) 0 (boxS x n s).earn.length = _
    rw [box_len, box_earn _ n (Nat.le_refl _)]
  refine ⟨mask_le hsn (fun i hi => (hx i hi).1) ?_, ?_, ?_⟩
  · rw [← popc_range hn hb.1]
    exact hb.2
  · unfold Sw7.sumTo Sw7.sumTo
    rw [he]
    omega
  · unfold Sw7.leastTo Sw7.leastTo
    rw [he]
    omega
theorem box_best_mem : ∃ p ∈ Sw7.allP (Sw7.openV (boxS x n s)), maskSum n x (p 0) = topSum n x s := by
  have hV := box_valid hn hs hsn hx
  have hO := Sw7.openV_ok hV
  obtain ⟨m, h1, h2, h3⟩ := mask_top (x := x) hsn
  have hm64 : m < 64 := Nat.lt_of_lt_of_le h1 (Nat.le_trans (Nat.pow_le_pow_right (by omega) hn) (by decide))
  refine ⟨fun j => if j = 0 then m else 0, (Sw7.mem_allP hO _).2 ⟨fun j hj => ?_, fun j hj => ?_, ⟨fun k hk => ?_, fun t ht => ?_⟩⟩, h3⟩
  · have hj' : j < 1 := hj
    obtain rfl : j = 0 := by omega
    have hsl : (Sw7.openV (boxS x n s)).S.stock.length = n := by simp [Sw7.openV, boxS]
    have hbl : ((Sw7.openV (boxS x n s)).S.boxes.getD 0 []).length = s := by simp [Sw7.openV, boxS]
    rw [hsl, hbl, if_pos rfl, popc_range hn h1]
    exact ⟨h1, h2⟩
  · have hj' : 1 ≤ j := hj
    exact if_neg (by omega)
  · have hk' : k < 1 := hk
    obtain rfl : k = 0 := by omega
    refine ⟨?_, ?_⟩
    · have hnw := hO.now 0 (by omega)
      show ((Sw7.popc (Sw7.dif m ((Sw7.openV (boxS x n s)).now 0)) : Nat) : Int) ≤ (s : Int)
      have hle : Sw7.popc (Sw7.dif m ((Sw7.openV (boxS x n s)).now 0)) ≤ Sw7.popc m := by
        unfold Sw7.popc
        rw [← List.countP_eq_length_filter, ← List.countP_eq_length_filter]
        refine List.countP_mono_left fun t ht hb => ?_
        rw [dif_bit7 m hm64 _ hnw t (List.mem_range.1 ht)] at hb
        exact (Bool.and_eq_true _ _ ▸ hb).1
      rw [popc_range hn h1, h2] at hle
      omega
    · show Sw7.dif (Sw7.keepTo [] 0) m = 0
      show 0 - (0 &&& m) = 0
      omega
  · show ((Sw7.cntB (fun j => if j = 0 then m else 0) t 3 : Nat) : Int) ≤ Sw7.copiesTo (boxS x n s) _ (boxS x n s).stock.length t
    have hsl : (boxS x n s).stock.length = n := by simp [boxS]
    have hc : Sw7.cntB (fun j => if j = 0 then m else 0) t 3 = if m.testBit t = true then 1 else 0 := by
      simp [Sw7.cntB]
    rw [hc, hsl]
    unfold Sw7.copiesTo
    by_cases htn : t < n
    · rw [if_pos htn]
      have e : (boxS x n s).stock.getD t 0 = 1 := by simp [boxS, htn, List.getD_eq_getElem?_getD]
      rw [e]
      split <;> omega
    · rw [if_neg htn, if_neg (by rw [Nat.testBit_lt_two_pow (Nat.lt_of_lt_of_le h1 (Nat.pow_le_pow_right (by omega) (by omega)))]; decide)]
      decide
/-- Best of the box is the first ranks' numbers together -/
theorem box_best : Sw7.bestN (Sw7.openV (boxS x n s)) = topSum n x s := by
  have hV := box_valid hn hs hsn hx
  have hO := Sw7.openV_ok hV
  obtain ⟨p, hp, hs'⟩ := box_best_mem hn hs hsn hx
  unfold Sw7.bestN
  rcases Sw7.best_spec hO (Sw7.allP (Sw7.openV (boxS x n s))) with ⟨h, -⟩ | ⟨q, hq, h1, h2⟩
  · rw [h] at hp; exact absurd hp (by simp)
  · have e1 := box_plan hn hs hsn hx hq
    have e2 := box_plan hn hs hsn hx hp
    have h3 := h2 p hp
    have h1' : (Sw7.bestOf (Sw7.openV (boxS x n s)) (Sw7.allP (Sw7.openV (boxS x n s)))).1 = Sw7.sumTo (Sw7.openV (boxS x n s)) q 1 := h1
    have h3' : Sw7.sumTo (Sw7.openV (boxS x n s)) p 1 ≤ Sw7.sumTo (Sw7.openV (boxS x n s)) q 1 := h3
    rw [e1.2.1] at h1' h3'
    rw [e2.2.1] at h3'
    have := e1.1
    omega
theorem topSum_nonneg : 0 ≤ topSum n x s := by
  obtain ⟨p, hp, hs'⟩ := box_best_mem hn hs hsn hx
  rw [← hs']
  unfold maskSum
  have : ∀ l : List Nat, (∀ i ∈ l, i < n) → 0 ≤ (l.map x).sum := by
    intro l
    induction l with
    | nil => intro _; exact Int.le_refl _
    | cons a r ih =>
      intro h
      rw [List.map_cons, List.sum_cons]
      have h1 := (hx a (h a List.mem_cons_self)).1
      have h2 := ih fun i hi => h i (List.mem_cons_of_mem _ hi)
      omega
  exact this _ fun i hi => List.mem_range.1 (List.mem_filter.1 hi).1
theorem box_fair : Sw7.fairOf (Sw7.openV (boxS x n s)) (Sw7.allP (Sw7.openV (boxS x n s))) = topSum n x s := by
  have hV := box_valid hn hs hsn hx
  have hO := Sw7.openV_ok hV
  obtain ⟨p, hp, hs'⟩ := box_best_mem hn hs hsn hx
  rcases Sw7.fair_is hO (Sw7.allP (Sw7.openV (boxS x n s))) with ⟨h, -⟩ | ⟨q, hq, h1⟩
  · rw [h] at hp; exact absurd hp (by simp)
  · have e1 := box_plan hn hs hsn hx hq
    have e2 := box_plan hn hs hsn hx hp
    have h1' : Sw7.fairOf (Sw7.openV (boxS x n s)) (Sw7.allP (Sw7.openV (boxS x n s))) = Sw7.leastTo (Sw7.openV (boxS x n s)) q 1 := h1
    have h3' : Sw7.leastTo (Sw7.openV (boxS x n s)) p 1 ≤ Sw7.fairOf (Sw7.openV (boxS x n s)) (Sw7.allP (Sw7.openV (boxS x n s))) := Sw7.fair_ge _ _ p hp
    rw [e1.2.2] at h1'
    rw [e2.2.2] at h3'
    have := e1.1
    omega
end
end Go.Proofs.YtppncdbhebgcaaaGreatDoor
