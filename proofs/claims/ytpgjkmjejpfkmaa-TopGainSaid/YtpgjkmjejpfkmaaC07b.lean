/- The walk of CloneLists. -/
import Derived.Test.YtpgjkmjejpfkmaaC07a
namespace Go.Proofs.Ytpgjkmjejpfkmaa
open Go.RowKit

def updN (f : Nat → Nat) (k s : Nat) : Nat → Nat := fun j => if j = k then s else f j
theorem rowV_take {l : List (List Int)} {k i : Nat} (hi : i < k) (g c : Nat → Nat) (a b : Nat) : rowV (l.take (k + 1)) (updN g k a) (updN c k b) i = rowV (l.take k) g c i := by
  unfold rowV updN
  rw [if_neg (by omega), if_neg (by omega)]
  congr 1
  simp only [List.getD_eq_getElem?_getD, List.getElem?_take]
  rw [if_pos hi, if_pos (by omega)]
theorem getD_take {l : List (List Int)} {k i : Nat} (hi : i < k) : (l.take k).getD i [] = l.getD i [] := by
  simp only [List.getD_eq_getElem?_getD, List.getElem?_take]
  rw [if_pos hi]

theorem rows_step {w w2 w4 : World} {o : Obj} {B : Nat} {v : Value} {l : List (List Int)} {k : Nat} {g c : Nat → Nat} {gn cn g4 cap4 : Nat} (hk : k < l.length) (h : RowsOwn w B v (l.take k) g c) (hB : B ≤ w.heap.size)
    (hE : Ext w w2) (hown : w2.ownsRow w.heap.size 3 1 (.slice (some ⟨gn, 0, none⟩) l[k].length cn) l[k].length (intVs l[k]))
    (h4 : w4.ownsRow B 23 1 (.slice (some ⟨g4, 0, none⟩) (k + 1) cap4) (k + 1) ((List.range (l.take k).length).map (rowV (l.take k) g c) ++ [.slice (some ⟨gn, 0, none⟩) l[k].length cn]))
    (hg : (w2.alloc o).grownBy w4 v.ownBlock) (hv4 : v.ownBlock = some g4 ∨ g4 = (w2.alloc o).heap.size) :
    RowsOwn w4 B (.slice (some ⟨g4, 0, none⟩) (k + 1) cap4) (l.take (k + 1)) (updN g k gn) (updN c k cn) := by
  have hlk : (l.take k).length = k := by rw [List.length_take]; omega
  have hlk1 : (l.take (k + 1)).length = k + 1 := by rw [List.length_take]; omega
  have hsz := hE.size
  have hsa : (w2.alloc o).heap.size = w2.heap.size + 1 := size_alloc w2 o
  have hgn : w.heap.size ≤ gn ∧ gn < w2.heap.size := hown.lt gn rfl
  have hgi : ∀ i, i < k → g i < w.heap.size := fun i hi => ((h.row i (by omega)).lt (g i) rfl).2
  have hvb : ∀ b, v.ownBlock = some b → b < w.heap.size := fun b hb => (h.out.lt b hb).2
  have hln : (l.take (k + 1)).getD k [] = l[k] := by rw [getD_take (by omega), getD_of_lt _ _ _ hk]
  have hrn : rowV (l.take (k + 1)) (updN g k gn) (updN c k cn) k = .slice (some ⟨gn, 0, none⟩) l[k].length cn := by
    unfold rowV updN
    rw [hln, if_pos rfl, if_pos rfl]
  constructor
  · rw [hlk1, List.range_succ, List.map_append, List.map_cons, List.map_nil, hrn]
    rw [hlk] at h4
    rw [List.map_congr_left (fun i hi => rowV_take (List.mem_range.1 hi) g c gn cn)]
    exact h4
  · intro i hi
    rw [hlk1] at hi
    by_cases hik : i = k
    · subst hik
      rw [hrn, hln]
      refine ((ownsRow_base hown hB).alloc o).kept hg (Or.inr ?_)
      intro he
      have := hvb gn he.symm
      omega
    · have hik' : i < k := by omega
      rw [rowV_take hik', getD_take (by omega), ← getD_take hik']
      refine ((ownsRow_ext (h.row i (by omega)) hE).alloc o).kept hg (Or.inr ?_)
      intro he
      exact h.apart i (by omega) he.symm
  · intro i hi he
    rw [hlk1] at hi
    have he' : g4 = updN g k gn i := by simpa [Value.ownBlock] using he
    unfold updN at he'
    by_cases hik : i = k
    · rw [if_pos hik] at he'
      rcases hv4 with h5 | h5
      · have := hvb g4 h5; omega
      · omega
    · rw [if_neg hik] at he'
      rcases hv4 with h5 | h5
      · exact h.apart i (by omega) (by rw [h5, he'])
      · have := hgi i (by omega); omega
  · intro i j hij hj
    rw [hlk1] at hj
    unfold updN
    rw [if_neg (by omega : ¬i = k)]
    by_cases hjk : j = k
    · rw [if_pos hjk]
      have := hgi i (by omega)
      omega
    · rw [if_neg hjk]
      exact h.inj i j hij (by omega)

set_option maxHeartbeats 1600000 in
theorem CloneLists07 (p : Option Addr) (l : List (List Int)) (c0 : Nat) (w : World) (hl : l.length ≤ 1000) (hr : ∀ i (h : i < l.length), l[i].length ≤ 1000) (hp : ListsAt w p l) :
    Calls Try.prog 30 #[.slice p l.length c0] w (fun e w' => ∃ v g c, e = .returned v ∧ Ext w w' ∧ RowsOwn w' w.heap.size v l g c) := by
  obtain ⟨i1, hi1, hz1, hy1, hb1⟩ := info_parts info_b
  go_enter Try.func30, Try.ntmps30
  go_wp2
  go_loopw [3, 4] (fun v i wr => ∃ k : Nat, k ≤ l.length ∧ i = .int .i64 k ∧ Ext w wr ∧ ∃ g c, RowsOwn wr w.heap.size v (l.take k) g c) (fun _ i _ => l.length - (intOf i).toNat)
  case atStart =>
    refine ⟨0, by omega, rfl, Ext.refl _, fun _ => 0, fun _ => 0, ?_⟩
    rw [List.take_zero]
    exact ⟨World.ownsRow_nil _ _ _ _, fun i hi => absurd hi (by simp), fun i hi => absurd hi (by simp), fun i j _ hj => absurd hj (by simp)⟩
  case round =>
    obtain ⟨k, hk, rfl, hE, g, c, hR⟩ := hrel
    by_cases hlt : k < l.length
    · obtain ⟨b, o, q, cq, rfl, hc, hq⟩ := (hp.ext hE).at k hlt
      have hlk : (l.take k).length = k := by rw [List.length_take]; omega
      have hrk := hr k hlt
      have HR := Lib.hid hR
      have HE := Lib.hid hE
      clear hR hr
      have hca : ∀ o', (wr.alloc o').cell? ⟨b, o + k, none⟩ = some (.slice q l[k].length cq) := fun o' => (Ext.alloc (Ext.refl wr) o').cell hc
      obtain ⟨n, hn⟩ : ∃ n, n = l[k].length := ⟨_, rfl⟩
      have HQ := Lib.hid hq
      have HN := Lib.hid hn
      clear hq hn hc
      go_upto_region 5 with (fail)
      go_wp2_with (at_builtin; refine wpList_row_of rfl (.tmp 12) (.tmp 16) rfl wr.heap.size rfl (World.ownsRow_made wr #[] 0 (Nat.le_refl _) (by decide) rfl) (by rw [size_alloc]; omega) q l[k] cq rfl (HQ.out.ext (Ext.alloc (Ext.refl wr) _)) hrk ?_)
      intro g1 cn1 w2 hown2 hgr2
      have hE2 : Ext wr w2 := Below.grown (Ext.alloc (Ext.refl wr) _) hgr2 (by rw [size_alloc]; omega) (fun j hj => by cases hj; exact Nat.le_refl _)
      have HO2 := Lib.hid hown2
      have HE2 := Lib.hid hE2
      have hws := hE.size
      have hws2 := hE2.size
      clear hown2 hgr2 hE2 hca hE hp HQ
      go_wp2_with (at_builtin; refine wpList_append_lies _ rfl (.tmp 11) (.tmp 18) 22 rfl w.heap.size 23 i1 (.slice none 0 0) 1 24 Try.underlying22 hi1 hz1 hy1 hb1 rfl (by decide) _ (l.take k).length _ rfl ((ownsRow_ext HR.out.out HE2.out).alloc _) ⟨w2.heap.size, 0, none⟩ 1 1 [.slice (some ⟨g1, 0, none⟩) l[k].length cn1] rfl rfl ?c1 ?c2 (by decide) ?c3 ?c4 ?c5 (w2.heap.size + 1) (size_alloc _ _) ?_)
      case c1 =>
        intro j u hj
        match j, hj with
        | 0, hj => simp at hj; subst hj; simp [Addr.add]
      case c2 => intro u hu; simp at hu; subst hu; rfl
      case c3 => rw [hlk]; unfold maxLen; omega
      case c4 => rw [hlk]; omega
      case c5 => rw [size_alloc]; omega
      intro g4 cap4 w4 hown4 hgr4 hat4 hlt4
      have HSTEP := Lib.hid (rows_step hlt HR.out hws HE2.out HO2.out (by simpa only [hlk] using hown4) hgr4 (by rw [size_alloc]; exact hat4))
      have hE4 : Ext w w4 := Below.grown ((HE.out.trans HE2.out).alloc _) hgr4 (by rw [size_alloc]; omega) (fun j hj => (HR.out.out.lt j hj).1)
      have HE4 := Lib.hid hE4
      clear hown4 hgr4 hat4 hlt4 hE4 HR HO2 HE2 HE HN hlk
      go_wp2
      go_roundw
      case rel => exact ⟨k + 1, by omega, by go_num, HE4.out, _, _, HSTEP.out⟩
      case measure => simp [intOf]; omega
    · obtain rfl : k = l.length := by omega
      rw [List.take_length] at hR
      have HR := Lib.hid hR
      clear hR
      go_wp2
      go_ret
      exact ⟨_, g, c, rfl, hE, HR.out⟩
end Go.Proofs.Ytpgjkmjejpfkmaa
