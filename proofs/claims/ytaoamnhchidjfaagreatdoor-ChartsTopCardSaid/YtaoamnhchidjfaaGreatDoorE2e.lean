
/- Charts: the walks of the reference's with, Needs and Next. -/
import Derived.Test.YtaoamnhchidjfaaGreatDoorE2d
namespace Go.Proofs.YtaoamnhchidjfaaGreatDoor
open Go.RowKit

theorem rowT_set {T : Tab} {i : Nat} (hi : i < T.length) (r : List Int) (j : Nat) : rowT (T.set i r) j = if j = i then r else rowT T j := by
  by_cases e : j = i
  · subst e
    rw [if_pos rfl]
    unfold rowT
    rw [List.getD_eq_getElem?_getD, List.getElem?_set_self hi]
    rfl
  · rw [if_neg e]
    unfold rowT
    rw [List.getD_eq_getElem?_getD, List.getElem?_set_ne (fun h => e h.symm), ← List.getD_eq_getElem?_getD]
theorem ways_set {r : List Int} : ∀ (T : Tab) (i : Nat), r.length ≤ (rowT T i).length → waysT (T.set i r) ≤ waysT T
  | [], _, _ => Nat.le_refl _
  | a :: T, 0, h => Nat.mul_le_mul_right _ (by simpa [rowT] using h)
  | a :: T, i + 1, h => Nat.mul_le_mul_left _ (ways_set T i (by rw [rowT_cons] at h; exact h))
theorem tabR_set {T : Tab} (hR : TabR T) {i : Nat} (hi : i < T.length) {r : List Int} (hr : r ≠ []) (hl : r.length ≤ (rowT T i).length) : TabR (T.set i r) := by
  refine ⟨fun l h => ?_, fun l h => ?_, by rw [List.length_set]; exact hR.len, Nat.le_trans (ways_set T i hl) hR.ways⟩
  · rcases List.mem_or_eq_of_mem_set h with h | h
    · exact hR.ne l h
    · rw [h]; exact hr
  · rcases List.mem_or_eq_of_mem_set h with h | h
    · exact hR.ls l h
    · rw [h]
      have := hR.ls _ (List.getElem_mem hi)
      rw [rowT_get hi] at hl
      omega
def RetRows (n : Nat) (T : Tab) (w : World) (e : Ending) (w' : World) : Prop := ∃ p d, e = .returned (.slice p n d) ∧ Ext w w' ∧ ListsAt w' p T
/-- cells that hold the rows of a table -/
def RowsC (w : World) (cur : Array Value) (T : Tab) : Prop := ∀ j (hj : j < T.length), ∃ q d, cur[j]? = some (.slice q T[j].length d) ∧ IntsAt w q T[j]
/-- rows are copied into a slice of their own -/
theorem wpList_rows_of {w : World} {ops : Array Oper} {rest : List Oper} {o : Oper} {a : Act} {Q : Exit → Act → World → Prop} (hgd : o.guard = none) (s x : Operand)
    (ho : o.op = .call { callee := .builtin .append, args := #[s, x], argTypes := #[43, 43] })
    (H : Nat) (hs : a.eval s = .slice (some ⟨H, 0, none⟩) 0 0) (hown : w.ownsRow H 23 1 (.slice (some ⟨H, 0, none⟩) 0 0) 0 []) (hH : H < w.heap.size)
    (p : Option Addr) (T : Tab) (c : Nat) (hx : a.eval x = .slice p T.length c) (W0 : World) (hW0 : Ext W0 w) (hl : ListsAt W0 p T) (hle : T.length ≤ 1000) (hne : 0 < T.length)
    (h : ∀ g cn w' cur, w'.heap[g]? = some (.cells cur 23) → H ≤ g → RowsC W0 cur T → w.grownBy w' (some H) → wpList Tryz.prog ops Q rest (a.put o.dst (.slice (some ⟨g, 0, none⟩) T.length cn)) w') :
    wpList Tryz.prog ops Q (o :: rest) a w := by
  obtain ⟨i0, hi, hz0, hz1, hz2⟩ := info_parts info_b
  obtain ⟨b0, o0, -, -, rfl, -, -⟩ := hl.at 0 hne
  have hrow : ∀ j (hj : j < T.length), ∃ q d, w.cell? ⟨b0, o0 + j, none⟩ = some (.slice q T[j].length d) ∧ IntsAt W0 q T[j] := fun j hj => by
    obtain ⟨b, o', q, d, he, h1, h2⟩ := hl.at j hj
    cases he
    exact ⟨q, d, hW0.cell h1, h2⟩
  refine wpList_append_own w hgd s x 43 ho H 23 i0 (.slice none 0 0) 1 24 Tryz.underlying43 hi hz0 hz1 hz2 rfl (by decide) _ 0 [] hs hown ⟨b0, o0, none⟩ T.length c ((List.range T.length).map fun j => (w.cell? ⟨b0, o0 + j, none⟩).getD undef) hx (by simp) ?_ ?_ (by simp only [maxLen]; omega) (by omega) (by omega) ?_
  · intro j u hj
    have hjl : j < T.length := by have := (List.getElem?_eq_some_iff.1 hj).1; simpa using this
    obtain ⟨q, d, h1, -⟩ := hrow j hjl
    have hu : u = .slice q T[j].length d := by
      have := (List.getElem?_eq_some_iff.1 hj).2
      simp [h1] at this
      exact this.symm
    rw [hu, ← h1]
    by_cases h0 : j = 0
    · subst h0; rfl
    · simp [Addr.add, h0]
  · intro u hu
    obtain ⟨j, hj, rfl⟩ := List.mem_map.1 hu
    obtain ⟨q, d, h1, -⟩ := hrow j (List.mem_range.1 hj)
    rw [h1]
    rfl
  · intro v' w' ho' hg hnil
    rw [Nat.zero_add, List.nil_append] at ho'
    rcases ho'.2 with ⟨rfl, -⟩ | ⟨g, cap, cur, rfl, hB, hgc, -, -, -, hx'⟩
    · exact absurd (hnil.1 rfl).1 (by simp)
    · refine h g cap w' cur hgc hB (fun j hj => ?_) hg
      obtain ⟨q, d, h1, h2⟩ := hrow j hj
      refine ⟨q, d, ?_, h2⟩
      have hc : cur.toList[j]? = some (.slice q T[j].length d) := by
        have h3 : (cur.toList.take (T.length * 1))[j]? = some (.slice q T[j].length d) := by
          rw [hx', List.getElem?_map, List.getElem?_range hj]
          simp [h1]
        rw [List.getElem?_take, if_pos (by omega)] at h3
        exact h3
      simpa using hc
/-- one row of a copied table is another one -/
theorem lists_set {w0 w' : World} {g i n d : Nat} {q : Option Addr} {T : Tab} {r : List Int} {cur : Array Value} (hi : i < T.length) (hg : w'.heap[g]? = some (.cells cur 23)) (hE : Ext w0 w') (hge : w0.heap.size ≤ g)
    (hT : RowsC w0 cur T) (hn : n = r.length) (hr : IntsAt (w'.setCell ⟨g, i, none⟩ (.slice q n d)) q r) : ListsAt (w'.setCell ⟨g, i, none⟩ (.slice q n d)) (some ⟨g, 0, none⟩) (T.set i r) := by
  subst hn
  intro j hj
  rw [List.length_set] at hj
  have hh := heap_set (o := i) (u := .slice q r.length d) hg rfl
  have hE' : Ext w0 (w'.setCell ⟨g, i, none⟩ (.slice q r.length d)) := Ext.setCell hE (p := ⟨g, i, none⟩) hge _
  have hlt : i < cur.size := by
    obtain ⟨q1, d1, h1, -⟩ := hT i hi
    exact (Array.getElem?_eq_some_iff.1 h1).1
  by_cases e : j = i
  · subst e
    refine ⟨g, 0, .slice q r.length d, rfl, ?_, q, d, ?_, ?_⟩
    · rw [Nat.zero_add, cell_of_heap hh, Array.getElem?_setIfInBounds_self_of_lt hlt]
    · rw [List.getElem_set_self]
    · rw [List.getElem_set_self]; exact hr
  · obtain ⟨q1, d1, h1, h2⟩ := hT j hj
    refine ⟨g, 0, .slice q1 T[j].length d1, rfl, ?_, q1, d1, ?_, ?_⟩
    · rw [Nat.zero_add, cell_of_heap hh, Array.getElem?_setIfInBounds_ne (fun h => e h.symm), h1]
    · rw [List.getElem_set_ne (fun h => e h.symm)]
    · rw [List.getElem_set_ne (fun h => e h.symm)]; exact h2.ext hE'

set_option maxRecDepth 20000 in
set_option maxHeartbeats 3200000 in
theorem rwith06 (T : Tab) (i : Nat) (hi : i < T.length) (hn : T.length ≤ 6) (hbd : ∀ v ∈ rowT T i, 0 ≤ v ∧ v ≤ 2499) (hll : (rowT T i).length ≤ 2000) (m : Int) (hm0 : 0 ≤ m) (hm1 : m ≤ 2500) (q : Option Addr) (c : Nat) (w : World) (hv : ListsAt w q T) :
    Calls Tryz.prog 79 #[.slice q T.length c, .int .i64 i, .int .i64 m] w (RetRows T.length (withT T i m) w) := by
  obtain ⟨b0, o0, rq, rc, rfl, hc0, hc1⟩ := hv.row hi
  have HV := Lib.hid (fun y (h : Ext w y) => hv.ext h)
  obtain ⟨r, hr⟩ : ∃ r, r = rowT T i := ⟨_, rfl⟩
  have HW := Lib.hid (show withT T i m = T.set i (r.map (· + m)) from by rw [hr]; rfl)
  rw [← hr] at hbd hll hc0 hc1
  have HBD := Lib.hid hbd
  have HR := Lib.hid hc1
  have hiT : (i : Int) < (T.length : Int) := by omega
  obtain ⟨i0, hi0, hz0, hz1, hz2⟩ := info_parts info_a
  have HI0 := Lib.hid (⟨hi0, hz0, hz1, hz2⟩ : _ ∧ _ ∧ _ ∧ _)
  have c0 : ∀ y, Ext w y → y.cell? ⟨b0, o0 + i, none⟩ = some (.slice rq r.length rc) := fun y h => h.cell hc0
  have HC0 := Lib.hid c0
  clear hv hr hbd hc0 hc1 hi0 hz0 hz1 hz2 c0
  go_enter Tryz.func79, Tryz.ntmps79
  go_wp2_with (at_builtin; refine wpList_rows_of rfl (.tmp 10) (.tmp 11) rfl w.heap.size rfl (World.ownsRow_made w #[] 0 (Nat.le_refl _) (by decide) rfl) (by rw [size_alloc]; omega) (some ⟨b0, o0, none⟩) T c rfl w ((Ext.refl _).alloc _) (HV.out _ (Ext.refl _)) (by omega) (by omega) ?_)
  intro g cn W cur hgc hgB hrows hgr
  have hE : Ext w W := Below.grown ((Ext.refl w).alloc _) hgr (by rw [size_alloc]; omega) (fun j hj => by cases hj; exact Nat.le_refl _)
  have HE := Lib.hid hE
  have HG := Lib.hid hgc
  have HRO := Lib.hid hrows
  have HGR := Lib.hid hgr
  have hgW : g < W.heap.size := (Array.getElem?_eq_some_iff.1 hgc).1
  clear hE hgc hrows hgr
  have b1 := HC0.out W HE.out
  go_wp2
  go_loopw [8, 9] (fun u a wr => ∃ k : Nat, k ≤ r.length ∧ a = .int .i64 k ∧ Ext W wr ∧ wr.ownsRow W.heap.size 3 1 u k (intVs ((r.map (· + m)).take k))) (fun _ a _ => r.length - (intOf a).toNat)
  case atStart => exact ⟨0, Nat.zero_le _, rfl, Ext.refl _, World.ownsRow_nil _ _ _ _⟩
  case round =>
    clear b1
    obtain ⟨k, hk, rfl, hEW, hO⟩ := hrel
    have HEW := Lib.hid hEW
    have HO := Lib.hid hO
    have b1 := HC0.out wr (HE.out.trans hEW)
    clear hEW hO
    by_cases hlt : k < r.length
    · have hlt' : (k : Int) < (r.length : Int) := by omega
      obtain ⟨rb, ro, rfl, hck⟩ := HR.out.at k hlt
      have b2 := (HE.out.trans HEW.out).cell hck
      have hb := HBD.out _ (List.getElem_mem hlt)
      have hps : (r.map (· + m)).take (k + 1) = (r.map (· + m)).take k ++ [r[k] + m] := by rw [List.take_succ_eq_append_getElem (by simpa using hlt)]; simp
      obtain ⟨x, hx⟩ : ∃ x, x = r[k] := ⟨_, rfl⟩
      rw [← hx] at b2 hb hps
      have hwx : IntKind.i64.wrap (x + m) = x + m := IntWalk.i64_in _ (by omega)
      have HPS := Lib.hid hps
      have hlk : ((r.map (· + m)).take k).length = k := by simp; omega
      have HLK := Lib.hid hlk
      clear hps hx hck hlk
      go_wp2_with (at_builtin; refine wpList_append_lies _ rfl (.tmp 22) (.tmp 32) 23 rfl W.heap.size 3 i0 (.int .i64 0) 1 8 Tryz.underlying23 HI0.out.1 HI0.out.2.1 HI0.out.2.2.1 HI0.out.2.2.2 rfl (by decide) _ k _ rfl (HO.out.alloc _) ⟨wr.heap.size, 0, none⟩ 1 1 [.int .i64 (x + m)] rfl rfl (hnewsE (Ext.refl _) rfl) (one_int _) (by decide) ?c3 ?c4 ?c5 (wr.heap.size + 1) (size_alloc _ _) ?_)
      case c3 => unfold maxLen; omega
      case c4 => omega
      case c5 => have := HEW.out.size; first | omega | (rw [size_alloc]; omega)
      intro g4 cap4 w4 hown4 hgr4 hat4 hlt4
      have hE4 : Ext W w4 := Below.grown (HEW.out.alloc _) hgr4 (HEW.out.alloc _).size (fun i hi => (HO.out.lt i hi).1)
      have HO4 := Lib.hid hown4
      have HE4 := Lib.hid hE4
      clear hown4 hgr4 hat4 hlt4 hE4 b1 b2
      go_wp2
      go_roundw
      case rel => exact ⟨k + 1, by omega, by simp, HE4.out, by rw [HPS.out, intVs_snoc]; exact HO4.out⟩
      case measure => simp [intOf]; omega
    · obtain rfl : k = r.length := by omega
      have hge : ¬((r.length : Int) < (r.length : Int)) := by omega
      have HO2 := Lib.hid (show wr.ownsRow W.heap.size 3 1 u8 r.length (intVs (r.map (· + m))) from by have h := HO.out; rw [List.take_of_length_le (by simp)] at h; exact h)
      have hgx := heap_ext3 HG.out HEW.out
      have f0 := cell_frozen hgx i
      have f1 := cell_of_heap hgx i
      obtain ⟨q1, d1, h1, h2⟩ := HRO.out i hi
      rw [h1] at f1
      obtain ⟨ov, hov⟩ : ∃ v, v = Value.slice q1 T[i].length d1 := ⟨_, rfl⟩
      rw [← hov] at f1
      have HGX := Lib.hid hgx
      clear hgx h1 h2 hov
      obtain ⟨oq, oc, rfl, hzz⟩ := own_ne_ints (by simp) HO2.out none (fun b hb => by cases hb)
      clear hzz
      go_wp2
      go_ret
      refine ⟨some ⟨g, 0, none⟩, _, rfl, Ext.setCell (HE.out.trans HEW.out) (p := ⟨g, i, none⟩) hgB _, ?_⟩
      rw [HW.out]
      obtain ⟨oq', oc', he', hr'⟩ := own_ne_ints (by simp) (ownsRow_off (u := .slice oq r.length oc) (o := i) HO2.out hgW) none (fun b hb => by cases hb)
      cases he'
      exact lists_set (w0 := w) hi HGX.out (HE.out.trans HEW.out) hgB HRO.out (by simp) hr'.ints

set_option maxRecDepth 20000 in
set_option maxHeartbeats 6400000 in
theorem rNeeds06 (C : Ch) (t f : Int) (v : Value) (w : World) (hv : ChV w v C) (hs : ChSm C) (hT : ∀ M ∈ C.meters, farB M = false) (hY : waysF C ≤ 70) :
    Calls Tryz.prog 41 #[v, .int .i64 t, .int .i64 f] w (RetE (.tuple #[.int .i64 (needsA C t f), .int .i64 (errN C t f)]) w) := by
  have HV := Lib.hid hv
  have HS := Lib.hid hs
  have HT := Lib.hid hT
  obtain ⟨p, c, q, d, rfl, hp, hq⟩ := hv
  clear hp hq hT hs
  go_enter Tryz.func41, Tryz.ntmps41
  go_upto_region 1 with (fail)
  obtain ⟨s0, hs0⟩ : ∃ s0, s0 = w.heap.size := ⟨_, rfl⟩
  obtain ⟨W, hW⟩ : ∃ W, W = w.alloc (.cells #[.slice p C.meters.length c, .slice q C.extra.length d, .int .i64 C.frm, .int .i64 C.tto] 25) := ⟨_, rfl⟩
  have m0 : W.heap[s0]? = some (.cells #[.slice p C.meters.length c, .slice q C.extra.length d, .int .i64 C.frm, .int .i64 C.tto] 25) := by rw [hs0, hW]; exact heap_new _ _
  have hE : Ext w W := by rw [hW]; exact Ext.alloc (Ext.refl _) _
  rw [← hs0, ← hW]
  have HKC := Lib.hid (fun y (h : Ext W y) => (⟨h.cell (cell_of_heap m0 0), h.cell (cell_of_heap m0 1), h.cell (cell_of_heap m0 2), h.cell (cell_of_heap m0 3)⟩ :
    y.cell? ⟨s0, 0, none⟩ = some (.slice p C.meters.length c) ∧ y.cell? ⟨s0, 1, none⟩ = some (.slice q C.extra.length d) ∧ y.cell? ⟨s0, 2, none⟩ = some (.int .i64 C.frm) ∧ y.cell? ⟨s0, 3, none⟩ = some (.int .i64 C.tto)))
  have HE := Lib.hid hE
  have HVW := Lib.hid (fun y (h : Ext W y) => HV.out.ext (HE.out.trans h))
  obtain ⟨bt, hbt⟩ : ∃ b, b = isTB C t := ⟨_, rfl⟩
  obtain ⟨bf, hbf⟩ : ∃ b, b = isFB C f := ⟨_, rfl⟩
  have HIS := Lib.hid (fun y (h : Ext W y) => (show Calls Tryz.prog 25 #[.agg #[.slice p C.meters.length c, .slice q C.extra.length d, .int .i64 C.frm, .int .i64 C.tto], .int .i64 t] y (RetE (.bool bt) y) from by rw [hbt]; exact rIsTitle06 C t _ y (HVW.out y h) (by have := HS.out.nm; omega)))
  have HIF := Lib.hid (fun y (h : Ext W y) => (show Calls Tryz.prog 26 #[.agg #[.slice p C.meters.length c, .slice q C.extra.length d, .int .i64 C.frm, .int .i64 C.tto], .int .i64 f] y (RetE (.bool bf) y) from by rw [hbf]; exact rIsRank06 C f _ y (HVW.out y h) (by have := HS.out.nm; omega)))
  have HB := Lib.hid (⟨hbt, hbf⟩ : bt = isTB C t ∧ bf = isFB C f)
  clear hW m0 hE hs0 hbt hbf
  cases bt
  case false =>
    obtain ⟨T, hTT⟩ : ∃ T, T = askT C false := ⟨_, rfl⟩
    obtain ⟨z, hz⟩ : ∃ z, z = errC C false := ⟨_, rfl⟩
    have HAK := Lib.hid (fun y (h : Ext W y) => (show Calls Tryz.prog 63 #[.agg #[.slice p C.meters.length c, .slice q C.extra.length d, .int .i64 C.frm, .int .i64 C.tto], .bool false] y (RetTb T z y) from by rw [hTT, hz]; exact rNumbers06 C false _ y (HV.out.ext (HE.out.trans h)) HS.out HT.out))
    have HTZ := Lib.hid (⟨hTT, hz⟩ : T = askT C false ∧ z = errC C false)
    clear hTT hz
    refine wp_region_facts 14 [[], [], [], [1, 2], [3], [4], [4], [5, 6, 4], [4, 7], [0, 8], [9], [10], [10], [11]] [13, 12] Ext (FL [Is (.agg #[.slice p C.meters.length c, .slice q C.extra.length d, .int .i64 C.frm, .int .i64 C.tto]), Is (.agg #[.slice p C.meters.length c, .slice q C.extra.length d, .int .i64 C.frm, .int .i64 C.tto]), Is (.int .i64 t), Is (.bool false), Is (.bool false), Is (undef), Is (undef), Is (undef), Is (.bool false), TabF T z W.heap.size, TabF T z W.heap.size, RowF T W.heap.size, Is (.int .i64 z), RowF T W.heap.size]) (by kernel_rfl) (by kernel_rfl) Ext.refl (fun _ _ _ => Ext.trans) (fun _ _ => Ext.size) (FL.mono ⟨Is.mono, Is.mono, Is.mono, Is.mono, Is.mono, Is.mono, Is.mono, Is.mono, Is.mono, TabF.mono, TabF.mono, RowF.mono, Is.mono, RowF.mono, trivial⟩) ⟨?_, ?_, ?_, ?_, ?_, ?_, ?_, ?_, ?_, ?_, ?_, ?_, ?_, ?_, trivial⟩ ?_
    · refine opF_step ?_
      intro ys l0 h0 w' hr hf K hK
      clear hf
      obtain ⟨j0, j1, j2, j3⟩ := HKC.out w' ((Ext.refl W).drew.trans hr)
      simp only [fill, Act.put, dstO, List.take_succ_cons, List.take_zero, List.setIfInBounds_toArray, List.set_cons_zero, List.set_cons_succ, List.getElem?_cons_zero, Nat.zero_add, Nat.reduceAdd] at hK ⊢
      refine OpB.mk' ?_
      go_simp
      exact hK.out _ _ rfl (Ext.refl _)
    · refine opF_step ?_
      intro ys l0 h0 w' hr hf K hK
      clear hf
      obtain ⟨j0, j1, j2, j3⟩ := HKC.out w' ((Ext.refl W).drew.trans hr)
      simp only [fill, Act.put, dstO, List.take_succ_cons, List.take_zero, List.setIfInBounds_toArray, List.set_cons_zero, List.set_cons_succ, List.getElem?_cons_zero, List.getElem?_cons_succ, Nat.zero_add, Nat.reduceAdd] at hK ⊢
      refine OpB.mk' ?_
      go_simp
      exact hK.out _ _ rfl (Ext.refl _)
    · refine opF_step ?_
      intro ys l0 h0 w' hr hf K hK
      clear hf
      simp only [fill, Act.put, dstO, List.take_succ_cons, List.take_zero, List.setIfInBounds_toArray, List.set_cons_zero, List.set_cons_succ, List.getElem?_cons_zero, List.getElem?_cons_succ, Nat.zero_add, Nat.reduceAdd] at hK ⊢
      refine OpB.mk' ?_
      go_simp
      exact hK.out _ _ rfl (Ext.refl _)
    · refine opF_step ?_
      intro ys l0 h0 w' hr hf K hK
      obtain ⟨f0, f1, -⟩ := hf
      have e0 : ys 1 = _ := f0
      have e1 : ys 2 = _ := f1
      simp only [fill, Act.put, dstO, List.take_succ_cons, List.take_zero, List.setIfInBounds_toArray, List.set_cons_zero, List.set_cons_succ, List.getElem?_cons_zero, List.getElem?_cons_succ, Nat.zero_add, Nat.reduceAdd] at hK ⊢
      simp only [e0, e1] at hK ⊢
      clear e0 e1 f0 f1
      refine OpB.mk' ?_
      go_simp
      refine (HIS.out w' ((Ext.refl W).drew.trans hr)).mono ?_
      rintro e w2 ⟨rfl, hE2⟩
      exact hK.out _ _ rfl hE2
    · refine opF_step ?_
      intro ys l0 h0 w' hr hf K hK
      obtain ⟨f0, -⟩ := hf
      have e0 : ys 3 = _ := f0
      simp only [fill, Act.put, dstO, List.take_succ_cons, List.take_zero, List.setIfInBounds_toArray, List.set_cons_zero, List.set_cons_succ, List.getElem?_cons_zero, List.getElem?_cons_succ, Nat.zero_add, Nat.reduceAdd] at hK ⊢
      simp only [e0] at hK ⊢
      clear e0 f0
      refine OpB.mk' ?_
      go_simp
      exact hK.out _ _ rfl (Ext.refl _)
    · refine opF_step ?_
      intro ys l0 h0 w' hr hf K hK
      obtain ⟨f0, -⟩ := hf
      have e0 : ys 4 = _ := f0
      simp only [fill, Act.put, dstO, List.take_succ_cons, List.take_zero, List.setIfInBounds_toArray, List.set_cons_zero, List.set_cons_succ, List.getElem?_cons_zero, List.getElem?_cons_succ, Nat.zero_add, Nat.reduceAdd] at hK ⊢
      simp only [e0] at hK ⊢
      clear e0 f0
      refine OpB.mk' ?_
      go_simp
      exact hK.out _ _ rfl (Ext.refl _)
    · refine opF_step ?_
      intro ys l0 h0 w' hr hf K hK
      obtain ⟨f0, -⟩ := hf
      have e0 : ys 4 = _ := f0
      simp only [fill, Act.put, dstO, List.take_succ_cons, List.take_zero, List.setIfInBounds_toArray, List.set_cons_zero, List.set_cons_succ, List.getElem?_cons_zero, List.getElem?_cons_succ, Nat.zero_add, Nat.reduceAdd] at hK ⊢
      simp only [e0] at hK ⊢
      clear e0 f0
      refine OpB.mk' ?_
      go_simp
      exact hK.out _ _ rfl (Ext.refl _)
    · refine opF_step ?_
      intro ys l0 h0 w' hr hf K hK
      obtain ⟨f0, f1, f2, -⟩ := hf
      have e0 : ys 5 = _ := f0
      have e1 : ys 6 = _ := f1
      have e2 : ys 4 = _ := f2
      simp only [fill, Act.put, dstO, List.take_succ_cons, List.take_zero, List.setIfInBounds_toArray, List.set_cons_zero, List.set_cons_succ, List.getElem?_cons_zero, List.getElem?_cons_succ, Nat.zero_add, Nat.reduceAdd] at hK ⊢
      simp only [e0, e1, e2] at hK ⊢
      clear e0 e1 e2 f0 f1 f2
      refine OpB.mk' ?_
      go_simp
      exact hK.out _ _ rfl (Ext.refl _)
    · refine opF_step ?_
      intro ys l0 h0 w' hr hf K hK
      obtain ⟨f0, f1, -⟩ := hf
      have e0 : ys 4 = _ := f0
      have e1 : ys 7 = _ := f1
      simp only [fill, Act.put, dstO, List.take_succ_cons, List.take_zero, List.setIfInBounds_toArray, List.set_cons_zero, List.set_cons_succ, List.getElem?_cons_zero, List.getElem?_cons_succ, Nat.zero_add, Nat.reduceAdd] at hK ⊢
      simp only [e0, e1] at hK ⊢
      clear e0 e1 f0 f1
      refine OpB.mk' ?_
      go_simp
      exact hK.out _ _ rfl (Ext.refl _)
    · refine opF_step ?_
      intro ys l0 h0 w' hr hf K hK
      obtain ⟨f0, f1, -⟩ := hf
      have e0 : ys 0 = _ := f0
      have e1 : ys 8 = _ := f1
      simp only [fill, Act.put, dstO, List.take_succ_cons, List.take_zero, List.setIfInBounds_toArray, List.set_cons_zero, List.set_cons_succ, List.getElem?_cons_zero, List.getElem?_cons_succ, Nat.zero_add, Nat.reduceAdd] at hK ⊢
      simp only [e0, e1] at hK ⊢
      clear e0 e1 f0 f1
      refine OpB.mk' ?_
      go_simp
      refine (HAK.out w' ((Ext.refl W).drew.trans hr)).mono ?_
      rintro e w2 ⟨u, vs, rfl, hR, hE2, hcp⟩
      exact hK.out _ _ ⟨u, vs, rfl, hR.base (Ext.size ((Ext.refl W).drew.trans hr)), hcp⟩ hE2
    · refine opF_step ?_
      intro ys l0 h0 w' hr hf K hK
      obtain ⟨f0, -⟩ := hf
      obtain ⟨u, vs, e0, hR, hcp⟩ := f0
      simp only [fill, Act.put, dstO, List.take_succ_cons, List.take_zero, List.setIfInBounds_toArray, List.set_cons_zero, List.set_cons_succ, List.getElem?_cons_zero, List.getElem?_cons_succ, Nat.zero_add, Nat.reduceAdd] at hK ⊢
      simp only [e0] at hK ⊢
      clear e0
      refine OpB.mk' ?_
      go_simp
      exact hK.out _ _ ⟨u, vs, rfl, hR, hcp⟩ (Ext.refl _)
    · refine opF_step ?_
      intro ys l0 h0 w' hr hf K hK
      obtain ⟨f0, -⟩ := hf
      obtain ⟨u, vs, e0, hR, hcp⟩ := f0
      simp only [fill, Act.put, dstO, List.take_succ_cons, List.take_zero, List.setIfInBounds_toArray, List.set_cons_zero, List.set_cons_succ, List.getElem?_cons_zero, List.getElem?_cons_succ, Nat.zero_add, Nat.reduceAdd] at hK ⊢
      simp only [e0] at hK ⊢
      clear e0
      refine OpB.mk' ?_
      go_simp
      exact hK.out _ _ ⟨vs, hR, hcp⟩ (Ext.refl _)
    · refine opF_step ?_
      intro ys l0 h0 w' hr hf K hK
      obtain ⟨f0, -⟩ := hf
      obtain ⟨u, vs, e0, hR, hcp⟩ := f0
      simp only [fill, Act.put, dstO, List.take_succ_cons, List.take_zero, List.setIfInBounds_toArray, List.set_cons_zero, List.set_cons_succ, List.getElem?_cons_zero, List.getElem?_cons_succ, Nat.zero_add, Nat.reduceAdd] at hK ⊢
      simp only [e0] at hK ⊢
      clear e0
      refine OpB.mk' ?_
      go_simp
      exact hK.out _ _ rfl (Ext.refl _)
    · refine opF_step ?_
      intro ys l0 h0 w' hr hf K hK
      obtain ⟨f0, -⟩ := hf
      simp only [fill, Act.put, dstO, List.take_succ_cons, List.take_zero, List.setIfInBounds_toArray, List.set_cons_zero, List.set_cons_succ, List.getElem?_cons_zero, List.getElem?_cons_succ, Nat.zero_add, Nat.reduceAdd] at hK ⊢
      refine OpB.mk' ?_
      go_simp
      exact hK.out _ _ f0 (Ext.refl _)
    intro ys l0 h0 w2 hr hf hsp
    obtain ⟨f13, f12, -⟩ := hf
    obtain ⟨vs, hR, hcp⟩ := f13
    have e12 : ys 12 = _ := f12
    simp only [fill, Act.put, List.take_succ_cons, List.take_zero, List.setIfInBounds_toArray, List.set_cons_zero, List.set_cons_succ, Nat.zero_add, Nat.reduceAdd, List.drop_succ_cons, List.drop_zero]
    rw [e12]
    clear e12 f12
    generalize ys 13 = u at hR ⊢
    clear hsp
    have hEW : Ext W w2 := (Ext.refl W).drew.trans hr
    have HR := Lib.hid hR
    have HEW := Lib.hid hEW
    obtain ⟨qt, ct, rfl, hLT⟩ := hR.lists
    have HLT := Lib.hid hLT
    clear hr hEW hR hcp hLT HAK
    have hz0 : ¬z = 0 := by rw [HTZ.out.2]; exact errC_f C
    have hg : (z == 0) = false := by simpa using hz0
    have HZ := Lib.hid (show errN C t f = z from by unfold errN; rw [← HB.out.1, ← HB.out.2, HTZ.out.2]; rfl)
    have HNA := Lib.hid (show needsA C t f = 0 from by unfold needsA; rw [HZ.out, okN_ne hz0])
    clear hz0
    go_wp2
    go_ret2
    exact RetE.fin (HE.out.trans HEW.out) (by rw [HNA.out, HZ.out]; rfl)
  case true =>
    obtain ⟨T, hTT⟩ : ∃ T, T = askT C bf := ⟨_, rfl⟩
    obtain ⟨z, hz⟩ : ∃ z, z = errC C bf := ⟨_, rfl⟩
    have HAK := Lib.hid (fun y (h : Ext W y) => (show Calls Tryz.prog 63 #[.agg #[.slice p C.meters.length c, .slice q C.extra.length d, .int .i64 C.frm, .int .i64 C.tto], .bool bf] y (RetTb T z y) from by rw [hTT, hz]; exact rNumbers06 C bf _ y (HV.out.ext (HE.out.trans h)) HS.out HT.out))
    have HTZ := Lib.hid (⟨hTT, hz⟩ : T = askT C bf ∧ z = errC C bf)
    clear hTT hz
    refine wp_region_facts 14 [[], [], [], [1, 2], [3], [4], [4], [5, 6, 4], [4, 7], [0, 8], [9], [10], [10], [11]] [13, 12] Ext (FL [Is (.agg #[.slice p C.meters.length c, .slice q C.extra.length d, .int .i64 C.frm, .int .i64 C.tto]), Is (.agg #[.slice p C.meters.length c, .slice q C.extra.length d, .int .i64 C.frm, .int .i64 C.tto]), Is (.int .i64 t), Is (.bool true), Is (.bool true), Is (.agg #[.slice p C.meters.length c, .slice q C.extra.length d, .int .i64 C.frm, .int .i64 C.tto]), Is (.int .i64 f), Is (.bool bf), Is (.bool bf), TabF T z W.heap.size, TabF T z W.heap.size, RowF T W.heap.size, Is (.int .i64 z), RowF T W.heap.size]) (by kernel_rfl) (by kernel_rfl) Ext.refl (fun _ _ _ => Ext.trans) (fun _ _ => Ext.size) (FL.mono ⟨Is.mono, Is.mono, Is.mono, Is.mono, Is.mono, Is.mono, Is.mono, Is.mono, Is.mono, TabF.mono, TabF.mono, RowF.mono, Is.mono, RowF.mono, trivial⟩) ⟨?_, ?_, ?_, ?_, ?_, ?_, ?_, ?_, ?_, ?_, ?_, ?_, ?_, ?_, trivial⟩ ?_
    · refine opF_step ?_
      intro ys l0 h0 w' hr hf K hK
      clear hf
      obtain ⟨j0, j1, j2, j3⟩ := HKC.out w' ((Ext.refl W).drew.trans hr)
      simp only [fill, Act.put, dstO, List.take_succ_cons, List.take_zero, List.setIfInBounds_toArray, List.set_cons_zero, List.set_cons_succ, List.getElem?_cons_zero, Nat.zero_add, Nat.reduceAdd] at hK ⊢
      refine OpB.mk' ?_
      go_simp
      exact hK.out _ _ rfl (Ext.refl _)
    · refine opF_step ?_
      intro ys l0 h0 w' hr hf K hK
      clear hf
      obtain ⟨j0, j1, j2, j3⟩ := HKC.out w' ((Ext.refl W).drew.trans hr)
      simp only [fill, Act.put, dstO, List.take_succ_cons, List.take_zero, List.setIfInBounds_toArray, List.set_cons_zero, List.set_cons_succ, List.getElem?_cons_zero, List.getElem?_cons_succ, Nat.zero_add, Nat.reduceAdd] at hK ⊢
      refine OpB.mk' ?_
      go_simp
      exact hK.out _ _ rfl (Ext.refl _)
    · refine opF_step ?_
      intro ys l0 h0 w' hr hf K hK
      clear hf
      simp only [fill, Act.put, dstO, List.take_succ_cons, List.take_zero, List.setIfInBounds_toArray, List.set_cons_zero, List.set_cons_succ, List.getElem?_cons_zero, List.getElem?_cons_succ, Nat.zero_add, Nat.reduceAdd] at hK ⊢
      refine OpB.mk' ?_
      go_simp
      exact hK.out _ _ rfl (Ext.refl _)
    · refine opF_step ?_
      intro ys l0 h0 w' hr hf K hK
      obtain ⟨f0, f1, -⟩ := hf
      have e0 : ys 1 = _ := f0
      have e1 : ys 2 = _ := f1
      simp only [fill, Act.put, dstO, List.take_succ_cons, List.take_zero, List.setIfInBounds_toArray, List.set_cons_zero, List.set_cons_succ, List.getElem?_cons_zero, List.getElem?_cons_succ, Nat.zero_add, Nat.reduceAdd] at hK ⊢
      simp only [e0, e1] at hK ⊢
      clear e0 e1 f0 f1
      refine OpB.mk' ?_
      go_simp
      refine (HIS.out w' ((Ext.refl W).drew.trans hr)).mono ?_
      rintro e w2 ⟨rfl, hE2⟩
      exact hK.out _ _ rfl hE2
    · refine opF_step ?_
      intro ys l0 h0 w' hr hf K hK
      obtain ⟨f0, -⟩ := hf
      have e0 : ys 3 = _ := f0
      simp only [fill, Act.put, dstO, List.take_succ_cons, List.take_zero, List.setIfInBounds_toArray, List.set_cons_zero, List.set_cons_succ, List.getElem?_cons_zero, List.getElem?_cons_succ, Nat.zero_add, Nat.reduceAdd] at hK ⊢
      simp only [e0] at hK ⊢
      clear e0 f0
      refine OpB.mk' ?_
      go_simp
      exact hK.out _ _ rfl (Ext.refl _)
    · refine opF_step ?_
      intro ys l0 h0 w' hr hf K hK
      obtain ⟨f0, -⟩ := hf
      have e0 : ys 4 = _ := f0
      obtain ⟨j0, j1, j2, j3⟩ := HKC.out w' ((Ext.refl W).drew.trans hr)
      simp only [fill, Act.put, dstO, List.take_succ_cons, List.take_zero, List.setIfInBounds_toArray, List.set_cons_zero, List.set_cons_succ, List.getElem?_cons_zero, List.getElem?_cons_succ, Nat.zero_add, Nat.reduceAdd] at hK ⊢
      simp only [e0] at hK ⊢
      clear e0 f0
      refine OpB.mk' ?_
      go_simp
      exact hK.out _ _ rfl (Ext.refl _)
    · refine opF_step ?_
      intro ys l0 h0 w' hr hf K hK
      obtain ⟨f0, -⟩ := hf
      have e0 : ys 4 = _ := f0
      simp only [fill, Act.put, dstO, List.take_succ_cons, List.take_zero, List.setIfInBounds_toArray, List.set_cons_zero, List.set_cons_succ, List.getElem?_cons_zero, List.getElem?_cons_succ, Nat.zero_add, Nat.reduceAdd] at hK ⊢
      simp only [e0] at hK ⊢
      clear e0 f0
      refine OpB.mk' ?_
      go_simp
      exact hK.out _ _ rfl (Ext.refl _)
    · refine opF_step ?_
      intro ys l0 h0 w' hr hf K hK
      obtain ⟨f0, f1, f2, -⟩ := hf
      have e0 : ys 5 = _ := f0
      have e1 : ys 6 = _ := f1
      have e2 : ys 4 = _ := f2
      simp only [fill, Act.put, dstO, List.take_succ_cons, List.take_zero, List.setIfInBounds_toArray, List.set_cons_zero, List.set_cons_succ, List.getElem?_cons_zero, List.getElem?_cons_succ, Nat.zero_add, Nat.reduceAdd] at hK ⊢
      simp only [e0, e1, e2] at hK ⊢
      clear e0 e1 e2 f0 f1 f2
      refine OpB.mk' ?_
      go_simp
      refine (HIF.out w' ((Ext.refl W).drew.trans hr)).mono ?_
      rintro e w2 ⟨rfl, hE2⟩
      exact hK.out _ _ rfl hE2
    · refine opF_step ?_
      intro ys l0 h0 w' hr hf K hK
      obtain ⟨f0, f1, -⟩ := hf
      have e0 : ys 4 = _ := f0
      have e1 : ys 7 = _ := f1
      simp only [fill, Act.put, dstO, List.take_succ_cons, List.take_zero, List.setIfInBounds_toArray, List.set_cons_zero, List.set_cons_succ, List.getElem?_cons_zero, List.getElem?_cons_succ, Nat.zero_add, Nat.reduceAdd] at hK ⊢
      simp only [e0, e1] at hK ⊢
      clear e0 e1 f0 f1
      refine OpB.mk' ?_
      go_simp
      exact hK.out _ _ rfl (Ext.refl _)
    · refine opF_step ?_
      intro ys l0 h0 w' hr hf K hK
      obtain ⟨f0, f1, -⟩ := hf
      have e0 : ys 0 = _ := f0
      have e1 : ys 8 = _ := f1
      simp only [fill, Act.put, dstO, List.take_succ_cons, List.take_zero, List.setIfInBounds_toArray, List.set_cons_zero, List.set_cons_succ, List.getElem?_cons_zero, List.getElem?_cons_succ, Nat.zero_add, Nat.reduceAdd] at hK ⊢
      simp only [e0, e1] at hK ⊢
      clear e0 e1 f0 f1
      refine OpB.mk' ?_
      go_simp
      refine (HAK.out w' ((Ext.refl W).drew.trans hr)).mono ?_
      rintro e w2 ⟨u, vs, rfl, hR, hE2, hcp⟩
      exact hK.out _ _ ⟨u, vs, rfl, hR.base (Ext.size ((Ext.refl W).drew.trans hr)), hcp⟩ hE2
    · refine opF_step ?_
      intro ys l0 h0 w' hr hf K hK
      obtain ⟨f0, -⟩ := hf
      obtain ⟨u, vs, e0, hR, hcp⟩ := f0
      simp only [fill, Act.put, dstO, List.take_succ_cons, List.take_zero, List.setIfInBounds_toArray, List.set_cons_zero, List.set_cons_succ, List.getElem?_cons_zero, List.getElem?_cons_succ, Nat.zero_add, Nat.reduceAdd] at hK ⊢
      simp only [e0] at hK ⊢
      clear e0
      refine OpB.mk' ?_
      go_simp
      exact hK.out _ _ ⟨u, vs, rfl, hR, hcp⟩ (Ext.refl _)
    · refine opF_step ?_
      intro ys l0 h0 w' hr hf K hK
      obtain ⟨f0, -⟩ := hf
      obtain ⟨u, vs, e0, hR, hcp⟩ := f0
      simp only [fill, Act.put, dstO, List.take_succ_cons, List.take_zero, List.setIfInBounds_toArray, List.set_cons_zero, List.set_cons_succ, List.getElem?_cons_zero, List.getElem?_cons_succ, Nat.zero_add, Nat.reduceAdd] at hK ⊢
      simp only [e0] at hK ⊢
      clear e0
      refine OpB.mk' ?_
      go_simp
      exact hK.out _ _ ⟨vs, hR, hcp⟩ (Ext.refl _)
    · refine opF_step ?_
      intro ys l0 h0 w' hr hf K hK
      obtain ⟨f0, -⟩ := hf
      obtain ⟨u, vs, e0, hR, hcp⟩ := f0
      simp only [fill, Act.put, dstO, List.take_succ_cons, List.take_zero, List.setIfInBounds_toArray, List.set_cons_zero, List.set_cons_succ, List.getElem?_cons_zero, List.getElem?_cons_succ, Nat.zero_add, Nat.reduceAdd] at hK ⊢
      simp only [e0] at hK ⊢
      clear e0
      refine OpB.mk' ?_
      go_simp
      exact hK.out _ _ rfl (Ext.refl _)
    · refine opF_step ?_
      intro ys l0 h0 w' hr hf K hK
      obtain ⟨f0, -⟩ := hf
      simp only [fill, Act.put, dstO, List.take_succ_cons, List.take_zero, List.setIfInBounds_toArray, List.set_cons_zero, List.set_cons_succ, List.getElem?_cons_zero, List.getElem?_cons_succ, Nat.zero_add, Nat.reduceAdd] at hK ⊢
      refine OpB.mk' ?_
      go_simp
      exact hK.out _ _ f0 (Ext.refl _)
    intro ys l0 h0 w2 hr hf hsp
    obtain ⟨f13, f12, -⟩ := hf
    obtain ⟨vs, hR, hcp⟩ := f13
    have e12 : ys 12 = _ := f12
    simp only [fill, Act.put, List.take_succ_cons, List.take_zero, List.setIfInBounds_toArray, List.set_cons_zero, List.set_cons_succ, Nat.zero_add, Nat.reduceAdd, List.drop_succ_cons, List.drop_zero]
    rw [e12]
    clear e12 f12
    generalize ys 13 = u at hR ⊢
    clear hsp
    have hEW : Ext W w2 := (Ext.refl W).drew.trans hr
    have HR := Lib.hid hR
    have HEW := Lib.hid hEW
    obtain ⟨qt, ct, rfl, hLT⟩ := hR.lists
    have HLT := Lib.hid hLT
    clear hr hEW hR hcp hLT HAK
    by_cases hz0 : z = 0
    case neg =>
      have hg : (z == 0) = false := by simpa using hz0
      have HZ := Lib.hid (show errN C t f = z from by unfold errN; rw [← HB.out.1, ← HB.out.2, HTZ.out.2]; rfl)
      have HNA := Lib.hid (show needsA C t f = 0 from by unfold needsA; rw [HZ.out, okN_ne hz0])
      clear hz0
      go_wp2
      go_ret2
      exact RetE.fin (HE.out.trans HEW.out) (by rw [HNA.out, HZ.out]; rfl)
    subst hz0
    obtain ⟨hC, hbt, hso⟩ := errC_0 HTZ.out.2.symm
    have hTC : T = tabC C := by rw [HTZ.out.1, askT_0 HTZ.out.2.symm]
    have htl : T.length = C.meters.length := by rw [hTC, tabC_len]
    obtain ⟨h0, h1⟩ := isTB_iff.1 HB.out.1.symm
    obtain ⟨h2, h3⟩ := isFB_iff.1 (HB.out.2.symm.trans hbt)
    obtain ⟨i, rfl⟩ : ∃ i : Nat, t = i := ⟨t.toNat, by omega⟩
    have hG : TabG T := by rw [hTC]; exact tabC_ok hC hso
    have hR : TabR T := by rw [hTC]; exact tabR_ok (by rw [← hbt]; exact HTZ.out.2.symm) hY
    have hn6 := hG.len
    have HZ := Lib.hid (show errN C i f = 0 from by unfold errN; rw [← HB.out.1, ← HB.out.2]; exact HTZ.out.2.symm)
    have HNA := Lib.hid (show needsA C i f = needV T i f from by unfold needsA; rw [HZ.out, okN_0 rfl, hTC]; rfl)
    have hiI : i < T.length := by omega
    have hf1 : 1 ≤ f := by omega
    have hrb : ∀ v ∈ rowT T i, 0 ≤ v ∧ v ≤ 2499 := fun v hv => by
      rw [rowT_get hiI] at hv
      exact hG.bd _ (List.getElem_mem hiI) v hv
    have hrl : (rowT T i).length ≤ 2000 := by rw [rowT_get hiI]; exact hG.ls _ (List.getElem_mem hiI)
    have HWI := Lib.hid (fun m (h0 : 0 ≤ m) (h1 : m ≤ 2500) y (h : Ext w2 y) => rwith06 T i hiI hn6 hrb hrl m h0 h1 qt ct y (HLT.out.ext h))
    have HRK := Lib.hid (fun m p d y (h : ListsAt y p (withT T i m)) => (by
      have hw : (withT T i m).length = T.length := withT_len T i m
      have h' := rrank06 (withT T i m) (with_ok hG.ok hiI m) (tabR_set hR hiI (by intro e; exact hG.ok.ne hiI (List.map_eq_nil_iff.1 e)) (by simp)) i (by omega) p d y h
      rw [hw] at h'
      unfold rkV at h'
      rw [rk_with hG.ok hiI] at h'
      exact h' : Calls Tryz.prog 65 #[.slice p T.length d, .int .i64 i] y (RetE (.agg #[.int .i64 (rkLo (withT T i m) i : Nat), .int .i64 (1 + ndC T i (loT T i + m) : Nat)]) y)))
    have HTOP := Lib.hid (need_top (T := T) (i := i) hf1 (B := 2500) (fun j hj => by have := hi_bd hG hj; have := lo_bd hG hiI; omega))
    clear hC hbt hso hTC htl h0 h1 h2 h3 hG hR hrb hrl
    go_wp2
    go_loopw [10, 11] (fun a b wr => ∃ lo hi : Int, a = .int .i64 lo ∧ b = .int .i64 hi ∧ 0 ≤ lo ∧ lo ≤ hi ∧ hi ≤ 2500 ∧ NeedP T i f (loT T i + hi) ∧ (∀ m, 0 ≤ m → m < lo → ¬NeedP T i f (loT T i + m)) ∧ Ext w2 wr) (fun a b _ => (intOf b - intOf a).toNat)
    case atStart => exact ⟨0, 2500, rfl, rfl, by omega, by omega, by omega, HTOP.out, fun m h1 h2 => by omega, Ext.refl _⟩
    case round =>
      obtain ⟨lo, hi, rfl, rfl, hl0, hlh, hh, hP, hN, hE2⟩ := hrel
      have HP := Lib.hid hP
      have HN := Lib.hid hN
      have HE2 := Lib.hid hE2
      clear hP hN hE2
      by_cases hlt : lo < hi
      · obtain ⟨mid, hmid⟩ : ∃ mid, mid = (lo + hi) / 2 := ⟨_, rfl⟩
        have hm1 : lo ≤ mid := by omega
        have hm2 : mid < hi := by omega
        have hq : Int.tdiv (lo + hi) 2 = mid := by rw [Int.tdiv_eq_ediv_of_nonneg (by omega)]; exact hmid.symm
        have hwa : IntKind.i64.wrap (lo + hi) = lo + hi := IntWalk.i64_in _ (by omega)
        have hwm : IntKind.i64.wrap mid = mid := IntWalk.i64_in _ (by omega)
        have hwb : IntKind.i64.wrap (mid + 1) = mid + 1 := IntWalk.i64_in _ (by omega)
        have HWJ := Lib.hid (HWI.out mid (by omega) (by omega) wr HE2.out)
        have hrk := fun p d y h => HRK.out mid p d y h
        have hnp : NeedP T i f (loT T i + mid) ↔ ((1 + ndC T i (loT T i + mid) : Nat) : Int) ≤ f := by unfold NeedP; omega
        obtain ⟨k, hk⟩ : ∃ k : Int, k = (1 + ndC T i (loT T i + mid) : Nat) := ⟨_, rfl⟩
        rw [← hk] at hrk hnp
        have HRJ := Lib.hid hrk
        have HNP := Lib.hid hnp
        clear hmid hrk hnp hk
        by_cases hkf : f < k
        · have hnn : ¬NeedP T i f (loT T i + mid) := fun h => by have := HNP.out.1 h; omega
          have HN2 := Lib.hid (show ∀ m, 0 ≤ m → m < mid + 1 → ¬NeedP T i f (loT T i + m) from fun m _ h2 hn => hnn (hn.mono (by omega)))
          clear hnn
          go_wp2_with (first
            | (go_at_call 79; refine HWJ.out.mono ?_; rintro e w5 ⟨p5, d5, rfl, hE5, hl5⟩)
            | (go_at_call 65; refine (HRJ.out p5 d5 _ hl5).mono ?_; rintro e w6 ⟨rfl, hE6⟩))
          apply_assumption
          go_wp2
          go_roundw
          case rel => exact ⟨mid + 1, hi, rfl, rfl, by omega, by omega, hh, HP.out, HN2.out, HE2.out.trans (hE5.trans hE6)⟩
          case measure => simp [intOf]; omega
        · have HP2 := Lib.hid (HNP.out.2 (by omega))
          go_wp2_with (first
            | (go_at_call 79; refine HWJ.out.mono ?_; rintro e w5 ⟨p5, d5, rfl, hE5, hl5⟩)
            | (go_at_call 65; refine (HRJ.out p5 d5 _ hl5).mono ?_; rintro e w6 ⟨rfl, hE6⟩))
          apply_assumption
          go_wp2
          go_roundw
          case rel => exact ⟨lo, mid, rfl, rfl, hl0, by omega, by omega, HP2.out, HN.out, HE2.out.trans (hE5.trans hE6)⟩
          case measure => simp [intOf]; omega
      · obtain rfl : lo = hi := by omega
        have HAN := Lib.hid (show needsA C i f = lo from by rw [HNA.out]; exact needV_eq ⟨hl0, HP.out, HN.out⟩)
        go_wp2
        go_ret2
        exact RetE.fin (HE.out.trans (HEW.out.trans HE2.out)) (by rw [HAN.out, HZ.out]; rfl)

theorem open_tm {T : Tab} (hT : TabOK T) (f : Int) : ((pickTo (tmF T f true) T.length).length : Int) - (pickTo (tmF T f false) T.length).length = (openN T f : Nat) := by
  rw [← open_ref hT f]
  have e1 : pickTo (tmF T f true) T.length = mayL T f := by
    rw [← may_ref hT f]
    exact pick_congr fun i _ => by unfold tmF; simp
  have e2 : pickTo (tmF T f false) T.length = topL T f := pick_congr fun i _ => by unfold tmF; simp
  rw [e1, e2]

set_option maxRecDepth 20000 in
set_option maxHeartbeats 6400000 in
theorem rNext06 (C : Ch) (n : Int) (v : Value) (w : World) (hv : ChV w v C) (hs : ChSm C) (hT : ∀ M ∈ C.meters, farB M = false) (hY : waysF C ≤ 70) :
    Calls Tryz.prog 43 #[v, .int .i64 n] w (RetE (.tuple #[.int .i64 (nextTA C n), .int .i64 (nextTE C n)]) w) := by
  have HV := Lib.hid hv
  have HS := Lib.hid hs
  have HT := Lib.hid hT
  obtain ⟨p, c, q, d, rfl, hp, hq⟩ := hv
  clear hp hq hT hs
  go_enter Tryz.func43, Tryz.ntmps43
  go_upto_region 1 with (fail)
  obtain ⟨s0, hs0⟩ : ∃ s0, s0 = w.heap.size := ⟨_, rfl⟩
  obtain ⟨W, hW⟩ : ∃ W, W = w.alloc (.cells #[.slice p C.meters.length c, .slice q C.extra.length d, .int .i64 C.frm, .int .i64 C.tto] 25) := ⟨_, rfl⟩
  have m0 : W.heap[s0]? = some (.cells #[.slice p C.meters.length c, .slice q C.extra.length d, .int .i64 C.frm, .int .i64 C.tto] 25) := by rw [hs0, hW]; exact heap_new _ _
  have hE : Ext w W := by rw [hW]; exact Ext.alloc (Ext.refl _) _
  rw [← hs0, ← hW]
  have HKC := Lib.hid (fun y (h : Ext W y) => (⟨h.cell (cell_of_heap m0 0), h.cell (cell_of_heap m0 1), h.cell (cell_of_heap m0 2), h.cell (cell_of_heap m0 3)⟩ :
    y.cell? ⟨s0, 0, none⟩ = some (.slice p C.meters.length c) ∧ y.cell? ⟨s0, 1, none⟩ = some (.slice q C.extra.length d) ∧ y.cell? ⟨s0, 2, none⟩ = some (.int .i64 C.frm) ∧ y.cell? ⟨s0, 3, none⟩ = some (.int .i64 C.tto)))
  have HE := Lib.hid hE
  have HVW := Lib.hid (fun y (h : Ext W y) => HV.out.ext (HE.out.trans h))
  obtain ⟨b, hb⟩ : ∃ b, b = isFB C n := ⟨_, rfl⟩
  have HIS := Lib.hid (fun y (h : Ext W y) => (show Calls Tryz.prog 26 #[.agg #[.slice p C.meters.length c, .slice q C.extra.length d, .int .i64 C.frm, .int .i64 C.tto], .int .i64 n] y (RetE (.bool b) y) from by rw [hb]; exact rIsRank06 C n _ y (HVW.out y h) (by have := HS.out.nm; omega)))
  have HB := Lib.hid hb
  clear hb
  clear hW m0 hE hs0
  obtain ⟨T, hTT⟩ : ∃ T, T = askT C b := ⟨_, rfl⟩
  obtain ⟨z, hz⟩ : ∃ z, z = errC C b := ⟨_, rfl⟩
  have HAK := Lib.hid (fun y (h : Ext W y) => (show Calls Tryz.prog 63 #[.agg #[.slice p C.meters.length c, .slice q C.extra.length d, .int .i64 C.frm, .int .i64 C.tto], .bool b] y (RetTb T z y) from by rw [hTT, hz]; exact rNumbers06 C b _ y (HV.out.ext (HE.out.trans h)) HS.out HT.out))
  have HTZ := Lib.hid (⟨hTT, hz⟩ : T = askT C b ∧ z = errC C b)
  clear hTT hz
  refine wp_region_facts 9 [[], [], [], [1, 2], [0, 3], [4], [5], [5], [6]] [8, 7] Ext (FL [Is (.agg #[.slice p C.meters.length c, .slice q C.extra.length d, .int .i64 C.frm, .int .i64 C.tto]), Is (.agg #[.slice p C.meters.length c, .slice q C.extra.length d, .int .i64 C.frm, .int .i64 C.tto]), Is (.int .i64 n), Is (.bool b), TabF T z W.heap.size, TabF T z W.heap.size, RowF T W.heap.size, Is (.int .i64 z), RowF T W.heap.size]) (by kernel_rfl) (by kernel_rfl) Ext.refl (fun _ _ _ => Ext.trans) (fun _ _ => Ext.size) (FL.mono ⟨Is.mono, Is.mono, Is.mono, Is.mono, TabF.mono, TabF.mono, RowF.mono, Is.mono, RowF.mono, trivial⟩) ⟨?_, ?_, ?_, ?_, ?_, ?_, ?_, ?_, ?_, trivial⟩ ?_
  · refine opF_step ?_
    intro ys l0 h0 w' hr hf K hK
    clear hf
    obtain ⟨j0, j1, j2, j3⟩ := HKC.out w' ((Ext.refl W).drew.trans hr)
    simp only [fill, Act.put, dstO, List.take_succ_cons, List.take_zero, List.setIfInBounds_toArray, List.set_cons_zero, List.set_cons_succ, List.getElem?_cons_zero, Nat.zero_add, Nat.reduceAdd] at hK ⊢
    refine OpB.mk' ?_
    go_simp
    exact hK.out _ _ rfl (Ext.refl _)
  · refine opF_step ?_
    intro ys l0 h0 w' hr hf K hK
    clear hf
    obtain ⟨j0, j1, j2, j3⟩ := HKC.out w' ((Ext.refl W).drew.trans hr)
    simp only [fill, Act.put, dstO, List.take_succ_cons, List.take_zero, List.setIfInBounds_toArray, List.set_cons_zero, List.set_cons_succ, List.getElem?_cons_zero, List.getElem?_cons_succ, Nat.zero_add, Nat.reduceAdd] at hK ⊢
    refine OpB.mk' ?_
    go_simp
    exact hK.out _ _ rfl (Ext.refl _)
  · refine opF_step ?_
    intro ys l0 h0 w' hr hf K hK
    clear hf
    simp only [fill, Act.put, dstO, List.take_succ_cons, List.take_zero, List.setIfInBounds_toArray, List.set_cons_zero, List.set_cons_succ, List.getElem?_cons_zero, List.getElem?_cons_succ, Nat.zero_add, Nat.reduceAdd] at hK ⊢
    refine OpB.mk' ?_
    go_simp
    exact hK.out _ _ rfl (Ext.refl _)
  · refine opF_step ?_
    intro ys l0 h0 w' hr hf K hK
    obtain ⟨f0, f1, -⟩ := hf
    have e0 : ys 1 = _ := f0
    have e1 : ys 2 = _ := f1
    simp only [fill, Act.put, dstO, List.take_succ_cons, List.take_zero, List.setIfInBounds_toArray, List.set_cons_zero, List.set_cons_succ, List.getElem?_cons_zero, List.getElem?_cons_succ, Nat.zero_add, Nat.reduceAdd] at hK ⊢
    simp only [e0, e1] at hK ⊢
    clear e0 e1 f0 f1
    refine OpB.mk' ?_
    go_simp
    refine (HIS.out w' ((Ext.refl W).drew.trans hr)).mono ?_
    rintro e w2 ⟨rfl, hE2⟩
    exact hK.out _ _ rfl hE2
  · refine opF_step ?_
    intro ys l0 h0 w' hr hf K hK
    obtain ⟨f0, f1, -⟩ := hf
    have e0 : ys 0 = _ := f0
    have e1 : ys 3 = _ := f1
    simp only [fill, Act.put, dstO, List.take_succ_cons, List.take_zero, List.setIfInBounds_toArray, List.set_cons_zero, List.set_cons_succ, List.getElem?_cons_zero, List.getElem?_cons_succ, Nat.zero_add, Nat.reduceAdd] at hK ⊢
    simp only [e0, e1] at hK ⊢
    clear e0 e1 f0 f1
    refine OpB.mk' ?_
    go_simp
    refine (HAK.out w' ((Ext.refl W).drew.trans hr)).mono ?_
    rintro e w2 ⟨u, vs, rfl, hR, hE2, hcp⟩
    exact hK.out _ _ ⟨u, vs, rfl, hR.base (Ext.size ((Ext.refl W).drew.trans hr)), hcp⟩ hE2
  · refine opF_step ?_
    intro ys l0 h0 w' hr hf K hK
    obtain ⟨f0, -⟩ := hf
    obtain ⟨u, vs, e0, hR, hcp⟩ := f0
    simp only [fill, Act.put, dstO, List.take_succ_cons, List.take_zero, List.setIfInBounds_toArray, List.set_cons_zero, List.set_cons_succ, List.getElem?_cons_zero, List.getElem?_cons_succ, Nat.zero_add, Nat.reduceAdd] at hK ⊢
    simp only [e0] at hK ⊢
    clear e0
    refine OpB.mk' ?_
    go_simp
    exact hK.out _ _ ⟨u, vs, rfl, hR, hcp⟩ (Ext.refl _)
  · refine opF_step ?_
    intro ys l0 h0 w' hr hf K hK
    obtain ⟨f0, -⟩ := hf
    obtain ⟨u, vs, e0, hR, hcp⟩ := f0
    simp only [fill, Act.put, dstO, List.take_succ_cons, List.take_zero, List.setIfInBounds_toArray, List.set_cons_zero, List.set_cons_succ, List.getElem?_cons_zero, List.getElem?_cons_succ, Nat.zero_add, Nat.reduceAdd] at hK ⊢
    simp only [e0] at hK ⊢
    clear e0
    refine OpB.mk' ?_
    go_simp
    exact hK.out _ _ ⟨vs, hR, hcp⟩ (Ext.refl _)
  · refine opF_step ?_
    intro ys l0 h0 w' hr hf K hK
    obtain ⟨f0, -⟩ := hf
    obtain ⟨u, vs, e0, hR, hcp⟩ := f0
    simp only [fill, Act.put, dstO, List.take_succ_cons, List.take_zero, List.setIfInBounds_toArray, List.set_cons_zero, List.set_cons_succ, List.getElem?_cons_zero, List.getElem?_cons_succ, Nat.zero_add, Nat.reduceAdd] at hK ⊢
    simp only [e0] at hK ⊢
    clear e0
    refine OpB.mk' ?_
    go_simp
    exact hK.out _ _ rfl (Ext.refl _)
  · refine opF_step ?_
    intro ys l0 h0 w' hr hf K hK
    obtain ⟨f0, -⟩ := hf
    simp only [fill, Act.put, dstO, List.take_succ_cons, List.take_zero, List.setIfInBounds_toArray, List.set_cons_zero, List.set_cons_succ, List.getElem?_cons_zero, List.getElem?_cons_succ, Nat.zero_add, Nat.reduceAdd] at hK ⊢
    refine OpB.mk' ?_
    go_simp
    exact hK.out _ _ f0 (Ext.refl _)
  intro ys l0 h0 w2 hr hf hsp
  obtain ⟨f8, f7, -⟩ := hf
  obtain ⟨vs, hR, hcp⟩ := f8
  have e7 : ys 7 = _ := f7
  simp only [fill, Act.put, List.take_succ_cons, List.take_zero, List.setIfInBounds_toArray, List.set_cons_zero, List.set_cons_succ, Nat.zero_add, Nat.reduceAdd, List.drop_succ_cons, List.drop_zero]
  rw [e7]
  clear e7 f7
  generalize ys 8 = u at hR ⊢
  clear hsp
  have hEW : Ext W w2 := (Ext.refl W).drew.trans hr
  have HR := Lib.hid hR
  have HCP := Lib.hid hcp
  have HEW := Lib.hid hEW
  obtain ⟨qt, ct, rfl, hLT⟩ := hR.lists
  have HLT := Lib.hid hLT
  clear hr hEW hR hcp hLT HAK
  by_cases hz0 : z = 0
  case neg =>
    have hg : (z == 0) = false := by simpa using hz0
    have HZ := Lib.hid (show errF C n = z from by unfold errF; rw [← HB.out, HTZ.out.2])
    have HNA := Lib.hid (show nextTA C n = 0 ∧ nextTE C n = z from ⟨by unfold nextTA; rw [HZ.out, okN_ne hz0], by unfold nextTE; rw [HZ.out, if_neg hz0]⟩)
    clear hz0
    go_wp2
    go_ret2
    exact RetE.fin (HE.out.trans HEW.out) (by rw [HNA.out.1, HNA.out.2]; rfl)
  subst hz0
  obtain ⟨hC, hbt, hso⟩ := errC_0 HTZ.out.2.symm
  have hTC : T = tabC C := by rw [HTZ.out.1, askT_0 HTZ.out.2.symm]
  have htl : T.length = C.meters.length := by rw [hTC, tabC_len]
  have hG : TabG T := by rw [hTC]; exact tabC_ok hC hso
  have hR : TabR T := by rw [hTC]; exact tabR_ok (by rw [← hbt]; exact HTZ.out.2.symm) hY
  have hn6 := hG.len
  have hz : errF C n = 0 := by unfold errF; rw [← HB.out, ← HTZ.out.2]
  have HNA := Lib.hid (show nextTA C n = (if (nxTo T n T.length).1 < 0 then 0 else (nxTo T n T.length).1) ∧ nextTE C n = (if (nxTo T n T.length).1 < 0 then 3 else 0) from
    ⟨by unfold nextTA; rw [hz, okN_0 rfl, ← htl, hTC], by unfold nextTE; rw [if_pos hz, ← htl, hTC]⟩)
  have HG := Lib.hid hG
  have HR2 := Lib.hid hR
  clear hC hbt hso hTC htl hG hR hz
  go_wp2
  go_loopw [8, 9, 10] (fun b l i wr => ∃ j : Nat, j ≤ T.length ∧ i = .int .i64 j ∧ b = .int .i64 (nxTo T n j).1 ∧ l = .int .i64 (nxTo T n j).2 ∧ Ext w2 wr) (fun _ _ i _ => T.length - (intOf i).toNat)
  case atStart => exact ⟨0, Nat.zero_le _, rfl, rfl, rfl, Ext.refl _⟩
  case round =>
    obtain ⟨j, hj, rfl, rfl, rfl, hE2⟩ := hrel
    have HE2 := Lib.hid hE2
    clear hE2
    have hb := nxTo_bd (T := T) hn6 n j hj
    have hst := nxTo_succ T n j
    obtain ⟨bst, hbst⟩ : ∃ x, x = (nxTo T n j).1 := ⟨_, rfl⟩
    obtain ⟨lst, hlst⟩ : ∃ x, x = (nxTo T n j).2 := ⟨_, rfl⟩
    have hpr : nxTo T n j = (bst, lst) := Prod.ext hbst.symm hlst.symm
    rw [hpr] at hst
    rw [← hbst, ← hlst] at hb ⊢
    clear hpr hlst
    by_cases hlt : j < T.length
    · clear hbst
      have hlt' : (j : Int) < (T.length : Int) := by omega
      obtain ⟨b0, o0, rq, rc, rfl, hc0, hc1⟩ := HLT.out.row hlt
      have hms := fun k (h : k < (rowT T j).length) => mostT_succ T n j h
      have hmb := fun k (h : k ≤ (rowT T j).length) => mostT_bd T n j k h
      have hr2 : (rowT T j).length ≤ 2000 := by rw [rowT_get hlt]; exact HG.out.ls _ (List.getElem_mem hlt)
      have hpin := fun (x : Int) => (⟨pin_ok HG.out.ok j x, tabR_set HR2.out hlt (r := [x]) (by simp) (by
        have := List.length_pos_iff.2 (HG.out.ok.ne hlt)
        simp only [List.length_singleton]; omega)⟩ : TabOK (pinT T j x) ∧ TabR (pinT T j x))
      unfold nxStep at hst
      obtain ⟨r, hr⟩ : ∃ r, r = rowT T j := ⟨_, rfl⟩
      rw [← hr] at hc0 hc1 hms hmb hst hr2
      have HST := Lib.hid hst
      have HMS := Lib.hid hms
      have HMB := Lib.hid hmb
      have HPI := Lib.hid hpin
      have HRW := Lib.hid hc1
      have HC0 := Lib.hid (fun y (h : Ext w2 y) => h.cell hc0)
      have b1 := HC0.out wr HE2.out
      clear hst hms hmb hpin hr hc0 hc1
      by_cases h2 : r.length < 2
      · have h2' : (r.length : Int) < 2 := by omega
        have HN2 := Lib.hid (show nxTo T n (j + 1) = (bst, lst) from by rw [HST.out, if_pos h2])
        go_wp2
        go_roundw
        case rel => exact ⟨j + 1, by omega, by simp, by rw [HN2.out], by rw [HN2.out], HE2.out⟩
        case measure => simp [intOf]; omega
      · have h2' : ¬(r.length : Int) < 2 := by omega
        have HN2 := Lib.hid (show nxTo T n (j + 1) = if bst < 0 ∨ mostT T n j r.length < lst then ((j : Int), mostT T n j r.length) else (bst, lst) from by rw [HST.out, if_neg h2])
        clear HST
        go_wp2
        go_loopw [11, 12] (fun x i w3 => ∃ k : Nat, k ≤ r.length ∧ i = .int .i64 k ∧ x = .int .i64 (mostT T n j k) ∧ Ext w2 w3) (fun _ i _ => r.length - (intOf i).toNat)
        case atStart => exact ⟨0, Nat.zero_le _, rfl, rfl, HE2.out⟩
        case round =>
          clear b1
          obtain ⟨k, hk, rfl, rfl, hE3⟩ := hrel
          have b1 := HC0.out wr hE3
          have HE3 := Lib.hid hE3
          have hmk := HMB.out k hk
          clear hE3
          by_cases hkl : k < r.length
          · have hkl' : (k : Int) < (r.length : Int) := by omega
            have hms := HMS.out k hkl
            obtain ⟨b2, o2, rfl, hck⟩ := HRW.out.at k hkl
            obtain ⟨x, hx⟩ : ∃ x, x = r[k] := ⟨_, rfl⟩
            rw [← hx] at hms hck
            obtain ⟨hpo, hpr⟩ := HPI.out x
            have hop := open_tm hpo n
            have hpl : (pinT T j x).length = T.length := by unfold pinT; rw [List.length_set]
            have htp := fun (s : Bool) p d y (h : ListsAt y p (pinT T j x)) => rtop06 (pinT T j x) hpo hpr n s p d y h
            have hl1 := pickTo_len (tmF (pinT T j x) n true) (pinT T j x).length
            have hl2 := pickTo_len (tmF (pinT T j x) n false) (pinT T j x).length
            rw [hpl] at hop htp hl1 hl2
            obtain ⟨L1, hL1⟩ : ∃ L, L = pickTo (tmF (pinT T j x) n true) T.length := ⟨_, rfl⟩
            obtain ⟨L2, hL2⟩ : ∃ L, L = pickTo (tmF (pinT T j x) n false) T.length := ⟨_, rfl⟩
            rw [← hL1] at hop hl1
            rw [← hL2] at hop hl2
            have HT1 := Lib.hid (fun p d y h => (by have := htp true p d y h; rwa [← hL1] at this : Calls Tryz.prog 77 #[.slice p T.length d, .int .i64 n, .bool true] y (RetO1 L1 y)))
            have HT2 := Lib.hid (fun p d y h => (by have := htp false p d y h; rwa [← hL2] at this : Calls Tryz.prog 77 #[.slice p T.length d, .int .i64 n, .bool false] y (RetO1 L2 y)))
            obtain ⟨mk, hmk'⟩ : ∃ m, m = mostT T n j k := ⟨_, rfl⟩
            obtain ⟨mk1, hmk1'⟩ : ∃ m, m = mostT T n j (k + 1) := ⟨_, rfl⟩
            rw [← hmk', ← hmk1'] at hms
            rw [← hmk'] at hmk ⊢
            obtain ⟨on, hon⟩ : ∃ m : Nat, m = openN (pinT T j x) n := ⟨_, rfl⟩
            rw [← hon] at hop hms
            have HMX := Lib.hid (show (if mk < (on : Int) then (on : Int) else mk) = mk1 from by rw [hms]; split <;> omega)
            have hsub : IntKind.i64.wrap ((L1.length : Int) - (L2.length : Int)) = (on : Int) := by rw [hop]; exact IntWalk.i64_in _ (by omega)
            have HMK := Lib.hid hmk1'
            have HCK := Lib.hid (fun y (h : Ext w2 y) => h.cell hck)
            clear htp hL1 hL2 hmk' hmk1' hon hms hx hck hpo hpr hpl hop
            go_wp2_with (at_builtin; refine wpList_rows_of rfl (.tmp 46) (.tmp 47) rfl wr.heap.size rfl (World.ownsRow_made wr #[] 0 (Nat.le_refl _) (by decide) rfl) (by rw [size_alloc]; omega) (some ⟨b0, o0, none⟩) T ct rfl w2 (HE3.out.alloc _) HLT.out (by omega) (by omega) ?_)
            intro g cn W5 cur hgc hgB hrows hgr
            have hE5 : Ext w2 W5 := Below.grown (HE3.out.alloc _) hgr (HE3.out.alloc _).size (fun j hj => by cases hj; exact HE3.out.size)
            have hgw : w2.heap.size ≤ g := Nat.le_trans HE3.out.size hgB
            have hgx := heap_ext3 hgc (Ext.alloc (Ext.refl W5) (.cells #[.int .i64 x] 3))
            obtain ⟨q1, d1, h1, h1b⟩ := hrows j hlt
            have f0 := cell_frozen hgx j
            have f1 := cell_of_heap hgx j
            rw [h1] at f1
            obtain ⟨ov, hov⟩ : ∃ v, v = Value.slice q1 T[j].length d1 := ⟨_, rfl⟩
            rw [← hov] at f1
            have b3 := HC0.out W5 hE5
            have b4 := HCK.out W5 hE5
            have hnr : IntsAt ((W5.alloc (.cells #[.int .i64 x] 3)).setCell ⟨g, j, none⟩ (.slice (some ⟨W5.heap.size, 0, none⟩) 1 1)) (some ⟨W5.heap.size, 0, none⟩) [x] := by
              intro i hi
              obtain rfl : i = 0 := by simpa using hi
              refine ⟨W5.heap.size, 0, .int .i64 x, rfl, ?_, rfl⟩
              have hne : W5.heap.size ≠ g := by have := (Array.getElem?_eq_some_iff.1 hgc).1; omega
              exact cell_of_heap (heap_set_ne hne (heap_new W5 _)) 0
            have HLS := Lib.hid (show ListsAt ((W5.alloc (.cells #[.int .i64 x] 3)).setCell ⟨g, j, none⟩ (.slice (some ⟨W5.heap.size, 0, none⟩) 1 1)) (some ⟨g, 0, none⟩) (pinT T j x) from lists_set (w0 := w2) (n := 1) hlt hgx (hE5.alloc _) hgw hrows (r := [x]) rfl hnr)
            have HE5 := Lib.hid (Ext.setCell (hE5.alloc (.cells #[.int .i64 x] 3)) (p := ⟨g, j, none⟩) hgw (.slice (some ⟨W5.heap.size, 0, none⟩) 1 1))
            clear hgc hrows hgr hE5 hgx hov h1 h1b hnr b1
            go_upto_region 15 with (fail)
            obtain ⟨W6, hW6⟩ : ∃ W6, W6 = (W5.alloc (.cells #[.int .i64 x] 3)).setCell ⟨g, j, none⟩ (.slice (some ⟨W5.heap.size, 0, none⟩) 1 1) := ⟨_, rfl⟩
            rw [← hW6] at HLS HE5 ⊢
            clear hW6 f0 f1 b3 b4
            go_wp2_with (fail)
            go_at_call 77
            with_reducible refine (HT1.out _ _ _ HLS.out).mono ?_
            rintro e w7 ⟨u7, rfl, hO7, hE7⟩
            obtain ⟨q7, c7, rfl⟩ := own_slice hO7
            go_wp2_with (fail)
            go_at_call 77
            with_reducible refine (HT2.out _ _ _ (HLS.out.ext hE7)).mono ?_
            rintro e w8 ⟨u8, rfl, hO8, hE8⟩
            obtain ⟨q8, c8, rfl⟩ := own_slice hO8
            go_wp2
            refine ⟨⟨k + 1, by omega, by simp, by rw [HMX.out, HMK.out], HE5.out.trans (hE7.trans hE8)⟩, by simp [intOf]; omega⟩
          · obtain rfl : k = r.length := by omega
            have hge : ¬(r.length : Int) < (r.length : Int) := by omega
            obtain ⟨mo, hmo⟩ : ∃ m, m = mostT T n j r.length := ⟨_, rfl⟩
            rw [← hmo] at hmk HN2 ⊢
            clear hmo hkl hk
            by_cases c0 : bst < 0
            · have HN3 := Lib.hid (show nxTo T n (j + 1) = ((j : Int), mo) from by rw [HN2.out, if_pos (Or.inl c0)])
              clear HN2
              go_wp2
              go_roundw
              case rel => exact ⟨j + 1, by omega, by simp, by rw [HN3.out], by rw [HN3.out], HE3.out⟩
              case measure => simp [intOf]; omega
            · by_cases c2 : mo < lst
              · have HN3 := Lib.hid (show nxTo T n (j + 1) = ((j : Int), mo) from by rw [HN2.out, if_pos (Or.inr c2)])
                clear HN2
                go_wp2
                go_roundw
                case rel => exact ⟨j + 1, by omega, by simp, by rw [HN3.out], by rw [HN3.out], HE3.out⟩
                case measure => simp [intOf]; omega
              · have HN3 := Lib.hid (show nxTo T n (j + 1) = (bst, lst) from by rw [HN2.out, if_neg (fun h => h.elim c0 c2)])
                clear HN2
                go_wp2
                go_roundw
                case rel => exact ⟨j + 1, by omega, by simp, by rw [HN3.out], by rw [HN3.out], HE3.out⟩
                case measure => simp [intOf]; omega
    · obtain rfl : j = T.length := by omega
      have hge : ¬(T.length : Int) < (T.length : Int) := by omega
      rw [← hbst] at HNA
      have HEZ := Lib.hid (HE.out.trans (HEW.out.trans HE2.out))
      clear hbst hlt
      by_cases c0 : bst < 0
      · rw [if_pos c0, if_pos c0] at HNA
        go_wp2
        go_ret2
        exact RetE.fin HEZ.out (by rw [HNA.out.1, HNA.out.2]; rfl)
      · rw [if_neg c0, if_neg c0] at HNA
        go_wp2
        go_ret2
        exact RetE.fin HEZ.out (by rw [HNA.out.1, HNA.out.2]; rfl)
end Go.Proofs.YtaoamnhchidjfaaGreatDoor
