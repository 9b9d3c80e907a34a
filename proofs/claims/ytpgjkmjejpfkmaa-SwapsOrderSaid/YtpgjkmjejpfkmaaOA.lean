/- The plain law of any order: boxes the other way around. Writes of rows and keeps into a visit in memory of its own; the boxes turned around by such writes. What the walks of SwapsFewest and SwapsBest share. -/
import Derived.Test.YtpgjkmjejpfkmaaKB
import Derived.Test.YtpgjkmjejpfkmaaM07b
import Derived.Test.YtpgjkmjejpfkmaaC07f
import Derived.Test.YtpgjkmjejpfkmaaS07a
namespace Go.Proofs.Ytpgjkmjejpfkmaa
open Go.RowKit

/-- a visit with its boxes the other way around -/
structure RevS (S O : Swap) : Prop where
  n2 : S.boxes.length ≤ 2
  bx : O.boxes = S.boxes.reverse
  st : O.stock = S.stock
  ch : O.changes = S.changes
  el : O.earn.length = S.earn.length
  er : ∀ t, (O.earn.getD t []).length = (S.earn.getD t []).length
  ev : ∀ t b, b < S.boxes.length → (O.earn.getD t []).getD b 0 = (S.earn.getD t []).getD (S.boxes.length - 1 - b) 0
  kp : O.keeps = S.keeps.map fun k => ((S.boxes.length : Int) - 1 - k.1, k.2)
theorem RevS.len {S O : Swap} (h : RevS S O) : O.boxes.length = S.boxes.length := by rw [h.bx, List.length_reverse]
theorem RevS.symm {S O : Swap} (h : RevS S O) : RevS O S := by
  have hl := h.len
  refine ⟨by rw [hl]; exact h.n2, by rw [h.bx, List.reverse_reverse], h.st.symm, h.ch.symm, h.el.symm, fun t => (h.er t).symm, fun t b hb => ?_, ?_⟩
  · rw [hl] at hb ⊢
    rw [h.ev t (S.boxes.length - 1 - b) (by omega)]
    congr 1
    omega
  · rw [h.kp, List.map_map, hl]
    refine (List.map_id _).symm.trans (List.map_congr_left fun k _ => ?_)
    show k = ((S.boxes.length : Int) - 1 - ((S.boxes.length : Int) - 1 - k.1), k.2)
    rw [show (S.boxes.length : Int) - 1 - ((S.boxes.length : Int) - 1 - k.1) = k.1 from by omega]
/-- keeps name boxes that there are -/
def KeepsIn (S : Swap) : Prop := ∀ k ∈ S.keeps, 0 ≤ k.1 ∧ k.1 ≤ (S.boxes.length : Int) - 1
theorem keeps_in {S : Swap} (hS : Valid S) : KeepsIn S := by
  intro k hk
  obtain ⟨i, hi, rfl⟩ := List.getElem_of_mem hk
  have := hS.keep i hi
  exact ⟨this.1, this.2.1⟩
theorem keeps_rev {S O : Swap} (h : RevS S O) (hk : KeepsIn S) : KeepsIn O := by
  intro k hm
  rw [h.kp] at hm
  obtain ⟨k', hk', rfl⟩ := List.mem_map.1 hm
  have := hk k' hk'
  have := h.len
  show 0 ≤ (S.boxes.length : Int) - 1 - k'.1 ∧ (S.boxes.length : Int) - 1 - k'.1 ≤ (O.boxes.length : Int) - 1
  omega
theorem getD_rev {α : Type} (l : List α) (d : α) (j : Nat) (h : j < l.length) : l.reverse.getD j d = l.getD (l.length - 1 - j) d := by
  simp only [List.getD_eq_getElem?_getD]
  rw [List.getElem?_reverse h]
theorem rev_plan {S O : Swap} (h : RevS S O) {L : List (List Int)} (hL : IsPlan S L) : IsPlan O L.reverse := by
  refine ⟨by rw [List.length_reverse, h.len]; exact hL.1, fun i hi => ?_⟩
  rw [List.length_reverse] at hi
  have hn := hL.1
  have h1 := hL.2 (L.length - 1 - i) (by omega)
  rw [List.getElem_reverse, h.bx, getD_rev _ _ _ (by omega), h.st, ← hn]
  exact h1
theorem cntL_rev (L : List (List Int)) (t : Int) : cntL L.reverse t = cntL L t := by
  unfold cntL
  rw [List.countP_reverse]
theorem rev_fit {S O : Swap} (h : RevS S O) (hk : KeepsIn S) {L : List (List Int)} (hn : L.length = S.boxes.length) (hf : FitP S L) : FitP O L.reverse := by
  refine ⟨fun j hj => ?_, fun j hj => ?_, fun t ht => ?_⟩
  · rw [List.length_reverse] at hj
    have h1 := hf.ch (L.length - 1 - j) (by omega)
    rw [List.getElem_reverse, h.bx, getD_rev _ _ _ (by omega), h.ch, ← hn]
    exact h1
  · have hj' : j < S.keeps.length := by rw [h.kp, List.length_map] at hj; exact hj
    have h1 := hf.keep j hj'
    have h2 := hk _ (List.getElem_mem hj')
    have e : O.keeps[j] = ((S.boxes.length : Int) - 1 - S.keeps[j].1, S.keeps[j].2) := by
      rw [List.getElem_of_eq h.kp hj, List.getElem_map]
    rw [e]
    show S.keeps[j].2 ∈ L.reverse.getD ((S.boxes.length : Int) - 1 - S.keeps[j].1).toNat []
    rw [getD_rev _ _ _ (by omega), show L.length - 1 - ((S.boxes.length : Int) - 1 - S.keeps[j].1).toNat = S.keeps[j].1.toNat from by omega]
    exact h1
  · have ht' : t < S.stock.length := by rw [h.st] at ht; exact ht
    have h1 := hf.cnt t ht'
    rw [cntL_rev, h.bx, cntL_rev, List.getElem_of_eq h.st ht]
    exact h1
theorem rev_mem {S O : Swap} (h : RevS S O) (hk : KeepsIn S) {L : List (List Int)} (hL : L ∈ fitA S) : L.reverse ∈ fitA O := by
  obtain ⟨h1, h2⟩ := (mem_fitA L).1 hL
  exact (mem_fitA _).2 ⟨rev_plan h h1, rev_fit h hk h1.1 h2⟩
theorem rev_earn {S O : Swap} (h : RevS S O) (j : Nat) (hj : j < S.boxes.length) (l : List Int) : earnsIn O j l = earnsIn S (S.boxes.length - 1 - j) l := by
  unfold earnsIn
  congr 1
  exact List.map_congr_left fun t _ => h.ev _ _ hj
theorem two {α : Type} {l : List α} {n : Nat} (h : l.length = n) (hn : n ≤ 2) : (l = [] ∧ n = 0) ∨ (∃ x, l = [x] ∧ n = 1) ∨ ∃ x y, l = [x, y] ∧ n = 2 := by
  match l, h with
  | [], h => exact Or.inl ⟨rfl, by simpa using h.symm⟩
  | [x], h => exact Or.inr (Or.inl ⟨x, rfl, by simpa using h.symm⟩)
  | [x, y], h => exact Or.inr (Or.inr ⟨x, y, rfl, by simpa using h.symm⟩)
  | _ :: _ :: _ :: r, h => simp at h; omega
theorem rev_all {S O : Swap} (h : RevS S O) {L : List (List Int)} (hn : L.length = S.boxes.length) : earnsAll O L.reverse = earnsAll S L := by
  rcases two hn h.n2 with ⟨rfl, -⟩ | ⟨x, rfl, e⟩ | ⟨x, y, rfl, e⟩
  · rfl
  · have h0 := rev_earn h 0 (by omega) x
    rw [e] at h0
    simp [earnsAll, earnsTo, h0]
  · have h0 := rev_earn h 0 (by omega) y
    have h1 := rev_earn h 1 (by omega) x
    rw [e] at h0 h1
    simp [earnsAll, earnsTo, h0, h1]
    omega
theorem rev_least {S O : Swap} (h : RevS S O) (hp : 0 < S.boxes.length) {L : List (List Int)} (hn : L.length = S.boxes.length) : rleast O L.reverse (O.boxes.length - 1) = rleast S L (S.boxes.length - 1) := by
  rw [h.len]
  rcases two hn h.n2 with ⟨rfl, e⟩ | ⟨x, rfl, e⟩ | ⟨x, y, rfl, e⟩
  · omega
  · have h0 := rev_earn h 0 (by omega) x
    rw [e] at h0 ⊢
    simp [rleast, h0]
  · have h0 := rev_earn h 0 (by omega) y
    have h1 := rev_earn h 1 (by omega) x
    rw [e] at h0 h1 ⊢
    simp [rleast, h0, h1]
    omega
theorem rev_ch {S O : Swap} (h : RevS S O) {L : List (List Int)} (hn : L.length = S.boxes.length) : chAll O.boxes L.reverse = chAll S.boxes L := by
  rw [h.bx]
  have hb : S.boxes.length = L.length := hn.symm
  rcases two hn h.n2 with ⟨rfl, -⟩ | ⟨x, rfl, -⟩ | ⟨x, y, rfl, -⟩
  · rfl
  · obtain ⟨a, ha⟩ : ∃ a, S.boxes = [a] := List.length_eq_one_iff.1 hb
    rw [ha]; rfl
  · rcases two hb (by simp) with ⟨-, h0⟩ | ⟨a, -, h0⟩ | ⟨a, b, ha, -⟩
    · simp at h0
    · simp at h0
    rw [ha]
    simp [chAll, chTo]
    omega
theorem rev_le {S O : Swap} (h : RevS S O) (hk : KeepsIn S) : maxE S (fitA S) ≤ maxE O (fitA O) := by
  refine maxE_le S _ _ (maxE_ge O _).1 fun L hL => ?_
  have h1 := (maxE_ge O _).2 _ (rev_mem h hk hL)
  rw [rev_all h ((mem_fitA L).1 hL).1.1] at h1
  exact h1
theorem rev_max {S O : Swap} (h : RevS S O) (hk : KeepsIn S) : maxE O (fitA O) = maxE S (fitA S) := by
  have h1 := rev_le h hk
  have h2 := rev_le h.symm (keeps_rev h hk)
  omega
theorem rev_fair_le {S O : Swap} (h : RevS S O) (hk : KeepsIn S) (hp : 0 < S.boxes.length) : rfair S (fitA S) ≤ rfair O (fitA O) := by
  refine rfair_le S _ _ (rfair_ge O _).1 fun L hL => ?_
  have h1 := (rfair_ge O _).2 _ (rev_mem h hk hL)
  rw [rev_least h hp ((mem_fitA L).1 hL).1.1] at h1
  exact h1
theorem rev_fair {S O : Swap} (h : RevS S O) (hk : KeepsIn S) (hp : 0 < S.boxes.length) : rfair O (fitA O) = rfair S (fitA S) := by
  have h1 := rev_fair_le h hk hp
  have h2 := rev_fair_le h.symm (keeps_rev h hk) (by rw [h.len]; exact hp)
  omega
theorem rev_few {S O : Swap} (h : RevS S O) (hk : KeepsIn S) (g : Int) : rfew O g (fitA O) = rfew S g (fitA S) := by
  have hm := fun L (hL : L ∈ fitA S) => rev_mem h hk hL
  have hm' := fun L (hL : L ∈ fitA O) => rev_mem h.symm (keeps_rev h hk) hL
  have hn := fun L (hL : L ∈ fitA S) => ((mem_fitA L).1 hL).1.1
  have hn' := fun L (hL : L ∈ fitA O) => ((mem_fitA L).1 hL).1.1
  rcases rfew_spec S g (fitA S) with ⟨a1, a2⟩ | ⟨L, hL, a1, a2, a3⟩
  · rcases rfew_spec O g (fitA O) with ⟨b1, -⟩ | ⟨M, hM, b1, -, -⟩
    · rw [a1, b1]
    · have := a2 _ (hm' M hM)
      rw [rev_all h.symm (hn' M hM)] at this
      exact absurd b1 this
  · rcases rfew_spec O g (fitA O) with ⟨b1, b2⟩ | ⟨M, hM, b1, b2, b3⟩
    · have := b2 _ (hm L hL)
      rw [rev_all h (hn L hL)] at this
      exact absurd a1 this
    · have c1 := a3 _ (hm' M hM) (by rw [rev_all h.symm (hn' M hM)]; exact b1)
      have c2 := b3 _ (hm L hL) (by rw [rev_all h (hn L hL)]; exact a1)
      rw [rev_ch h.symm (hn' M hM)] at c1
      rw [rev_ch h (hn L hL)] at c2
      rw [a2, b2]
      omega
theorem rev_valid {S O : Swap} (hS : Valid S) (h : RevS S O) : Valid O := by
  have hl := h.len
  have hsl : O.stock.length = S.stock.length := by rw [h.st]
  refine ⟨by rw [hl]; exact hS.boxes, by rw [hsl]; exact hS.stock, by rw [hsl, h.el]; exact hS.earn, by rw [h.kp, List.length_map]; exact hS.keeps, by rw [h.ch]; exact hS.ch, fun i hi => ?_, fun i hi => ?_, fun i hi => ?_, fun i hi k hk => ?_, fun i hi => ?_⟩
  · have hi' : i < S.boxes.length := by omega
    rw [List.getElem_of_eq h.bx hi, List.getElem_reverse, hsl]
    exact hS.box _ _
  · rw [List.getElem_of_eq h.st hi]
    exact hS.st _ _
  · have hi' : i < S.earn.length := by rw [← h.el]; exact hi
    have h1 := h.er i
    rw [getD_of_lt _ _ _ hi, getD_of_lt _ _ _ hi', hS.row i hi'] at h1
    rw [h1, hl]
  · have hi' : i < S.earn.length := by rw [← h.el]; exact hi
    have h1 := h.er i
    rw [getD_of_lt _ _ _ hi, getD_of_lt _ _ _ hi', hS.row i hi'] at h1
    have h2 := h.ev i k (by omega)
    rw [getD_of_lt _ _ _ hi, getD_of_lt _ _ _ hk] at h2
    rw [h2]
    exact ⟨(earn_cell hS i _).1, (earn_cell hS i _).2⟩
  · have hi' : i < S.keeps.length := by rw [h.kp, List.length_map] at hi; exact hi
    obtain ⟨k1, k2, k3⟩ := hS.keep i hi'
    have e : O.keeps[i] = ((S.boxes.length : Int) - 1 - S.keeps[i].1, S.keeps[i].2) := by
      rw [List.getElem_of_eq h.kp hi, List.getElem_map]
    rw [e]
    refine ⟨by show 0 ≤ (S.boxes.length : Int) - 1 - S.keeps[i].1; omega, by show (S.boxes.length : Int) - 1 - S.keeps[i].1 ≤ (O.boxes.length : Int) - 1; omega, ?_⟩
    show S.keeps[i].2 ∈ O.boxes.getD ((S.boxes.length : Int) - 1 - S.keeps[i].1).toNat []
    rw [h.bx, getD_rev _ _ _ (by omega), show S.boxes.length - 1 - ((S.boxes.length : Int) - 1 - S.keeps[i].1).toNat = S.keeps[i].1.toNat from by omega]
    exact k3
theorem rev_copyS {S O : Swap} (h : RevS S O) (t : Nat) : RevS (copyS S t) (copyS O t) :=
  ⟨h.n2, h.bx, by show O.stock.set t _ = S.stock.set t _; rw [h.st], h.ch, h.el, h.er, h.ev, h.kp⟩
theorem rev_changeS {S O : Swap} (h : RevS S O) : RevS (changeS S) (changeS O) :=
  ⟨h.n2, h.bx, h.st, by show O.changes + 1 = S.changes + 1; rw [h.ch], h.el, h.er, h.ev, h.kp⟩
theorem keeps_copy {S : Swap} (h : KeepsIn S) (t : Nat) : KeepsIn (copyS S t) := h
theorem keeps_change {S : Swap} (h : KeepsIn S) : KeepsIn (changeS S) := h
/-- what the order of the boxes does not change -/
theorem rev_ans {S O : Swap} (hS : Valid S) (h : RevS S O) : ansV O (bestN (openV O)) = ansV S (bestN (openV S)) := by
  have hO := rev_valid hS h
  rw [ansV_t hO, ansV_t hS, ← maxE_best hO, ← maxE_best hS, rev_max h (keeps_in hS)]
theorem rev_fewV {S O : Swap} (hS : Valid S) (h : RevS S O) (g : Int) : fewV O g = fewV S g := by
  have hO := rev_valid hS h
  unfold fewV
  rw [← rfew_few hO, ← rfew_few hS, rev_few h (keeps_in hS), bP_t hO, bP_t hS]
theorem rev_fairV {S O : Swap} (hS : Valid S) (h : RevS S O) : fairV O = fairV S := by
  have hO := rev_valid hS h
  unfold fairV
  rw [bP_t hO, bP_t hS, h.len]
  by_cases h0 : S.boxes.length = 0
  · rw [if_pos h0, if_pos h0]
  · rw [if_neg h0, if_neg h0, ← rfair_fair hO (by rw [h.len]; omega), ← rfair_fair hS (by omega), rev_fair h (keeps_in hS) (by omega)]
theorem rev_copyV {S O : Swap} (hS : Valid S) (h : RevS S O) (t : Int) : copyV O t = copyV S t := by
  have hO := rev_valid hS h
  have hsl : O.stock.length = S.stock.length := by rw [h.st]
  unfold copyV
  rw [bP_t hO, bP_t hS, hsl]
  by_cases ht : 0 ≤ t ∧ t ≤ (S.stock.length : Int) - 1
  · rw [← maxE_best hO, ← maxE_best hS, ← copy_max hO t.toNat (by omega), ← copy_max hS t.toNat (by omega), rev_max h (keeps_in hS), rev_max (rev_copyS h t.toNat) (keeps_copy (keeps_in hS) _)]
  · rw [bP_f ht]; rfl
theorem rev_changeV {S O : Swap} (hS : Valid S) (h : RevS S O) : changeV O = changeV S := by
  have hO := rev_valid hS h
  unfold changeV
  rw [bP_t hO, bP_t hS, ← maxE_best hO, ← maxE_best hS, ← change_max hO, ← change_max hS, rev_max h (keeps_in hS), rev_max (rev_changeS h) (keeps_change (keeps_in hS))]
end Go.Proofs.Ytpgjkmjejpfkmaa
namespace Go.Proofs.Ytpgjkmjejpfkmaa
open Go.RowKit

theorem ownsRow_setV {w : World} {B g n c i size : Nat} {e : TypeId} {xs : List Value} {u : Value} (h : w.ownsRow B e size (.slice (some ⟨g, 0, none⟩) n c) n xs) :
    (w.setCell ⟨g, i, none⟩ u).ownsRow B e size (.slice (some ⟨g, 0, none⟩) n c) n (xs.set i u) := by
  refine ⟨by rw [List.length_set]; exact h.1, ?_⟩
  rcases h.2 with ⟨hv, h0⟩ | ⟨g', cap, cur, hv, hB, hg, hc, hm, hs, hx⟩
  · cases hv
  · cases hv
    refine Or.inr ⟨g, c, cur.setIfInBounds i u, rfl, hB, heap_set hg rfl, hc, hm, by simpa using hs, ?_⟩
    rw [Array.toList_setIfInBounds, List.take_set, hx]
theorem cell_set_ne {w : World} {b c o o' : Nat} {u : Value} (h : b ≠ c) : (w.setCell ⟨c, o', none⟩ u).cell? ⟨b, o, none⟩ = w.cell? ⟨b, o, none⟩ :=
  World.cell?_setCell_other _ _ _ _ (by intro e; simp only [Addr.mk.injEq] at e; first | exact h e.1 | exact h e.1.symm)

/-- a row of the boxes put in the place of another -/
theorem RowsOwn.setRow {w : World} {B bo cap i gn cn : Nat} {L : List (List Int)} {l : List Int} {g c : Nat → Nat} (h : RowsOwn w B (.slice (some ⟨bo, 0, none⟩) L.length cap) L g c) (hi : i < L.length)
    (hn : w.ownsRow B 3 1 (.slice (some ⟨gn, 0, none⟩) l.length cn) l.length (intVs l)) (hnew : ¬inR (.slice (some ⟨bo, 0, none⟩) L.length cap) L g gn) :
    RowsOwn (w.setCell ⟨bo, i, none⟩ (.slice (some ⟨gn, 0, none⟩) l.length cn)) B (.slice (some ⟨bo, 0, none⟩) L.length cap) (L.set i l) (fun j => if j = i then gn else g j) (fun j => if j = i then cn else c j) := by
  have hbut := setCell_but w bo i (.slice (some ⟨gn, 0, none⟩) l.length cn)
  have hget : ∀ k, (L.set i l).getD k [] = if k = i then l else L.getD k [] := by
    intro k
    simp only [List.getD_eq_getElem?_getD, List.getElem?_set]
    by_cases hk : k = i
    · subst hk
      simp [hi]
    · rw [if_neg (Ne.symm hk), if_neg hk]
  have hrow : ∀ k, rowV (L.set i l) (fun j => if j = i then gn else g j) (fun j => if j = i then cn else c j) k = if k = i then .slice (some ⟨gn, 0, none⟩) l.length cn else rowV L g c k := by
    intro k
    unfold rowV
    rw [hget]
    by_cases hk : k = i
    · simp [hk]
    · simp [hk]
  have hbn : bo ≠ gn := fun e => hnew (Or.inl (by rw [e]; rfl))
  refine ⟨?_, fun k hk => ?_, fun k hk => ?_, fun a b hab hb => ?_⟩
  · have h1 := ownsRow_setV (i := i) (u := .slice (some ⟨gn, 0, none⟩) l.length cn) h.out
    rw [List.length_set]
    have e : (List.range L.length).map (rowV (L.set i l) (fun j => if j = i then gn else g j) (fun j => if j = i then cn else c j)) = ((List.range L.length).map (rowV L g c)).set i (.slice (some ⟨gn, 0, none⟩) l.length cn) := by
      apply List.ext_getElem
      · simp
      · intro k hk hk'
        rw [List.getElem_map, List.getElem_range, hrow, List.getElem_set, List.getElem_map, List.getElem_range]
        by_cases e : k = i
        · rw [if_pos e, if_pos e.symm]
        · rw [if_neg e, if_neg (Ne.symm e)]
    rw [e]
    exact h1
  · rw [List.length_set] at hk
    rw [hrow, hget]
    by_cases e : k = i
    · rw [if_pos e, if_pos e]
      exact ownsRow_but hn hbut (fun he => hbn (Eq.symm (by simpa [Value.ownBlock] using he)))
    · rw [if_neg e, if_neg e]
      refine ownsRow_but (h.row k hk) hbut (fun he => h.apart k hk ?_)
      have : g k = bo := by simpa [rowV, Value.ownBlock] using he
      rw [this]; rfl
  · rw [List.length_set] at hk
    by_cases e : k = i
    · simp only [e, if_true]
      intro he
      exact hbn (by simpa [Value.ownBlock] using he)
    · simp only [if_neg e]
      exact h.apart k hk
  · rw [List.length_set] at hb
    have hng : ∀ k, k < L.length → g k ≠ gn := fun k hk he => hnew (Or.inr ⟨k, hk, he⟩)
    by_cases ea : a = i
    · by_cases eb : b = i
      · omega
      · simp only [ea, if_true, if_neg eb]
        exact (hng b hb).symm
    · by_cases eb : b = i
      · simp only [eb, if_true, if_neg ea]
        exact hng a (by omega)
      · simp only [if_neg ea, if_neg eb]
        exact h.inj a b hab hb
theorem inR_set {bo cap i gn : Nat} {L : List (List Int)} {l : List Int} {g : Nat → Nat} {x : Nat} (h : inR (.slice (some ⟨bo, 0, none⟩) L.length cap) (L.set i l) (fun j => if j = i then gn else g j) x) : inR (.slice (some ⟨bo, 0, none⟩) L.length cap) L g x ∨ x = gn := by
  rcases h with h | ⟨k, hk, h⟩
  · exact Or.inl (Or.inl h)
  · rw [List.length_set] at hk
    by_cases e : k = i
    · simp only [e, if_true] at h; exact Or.inr h.symm
    · simp only [if_neg e] at h; exact Or.inl (Or.inr ⟨k, hk, h⟩)
theorem CloneOwn.setBox {w : World} {B bo cap i gn cn n : Nat} {S : Swap} {l : List Int} {v1 v2 v3 : Value} {g0 k0 g2 k2 : Nat → Nat} (hnn : n = S.boxes.length) (h : CloneOwn w B S (.slice (some ⟨bo, 0, none⟩) n cap) v1 v2 v3 g0 k0 g2 k2) (hi : i < S.boxes.length)
    (hn : w.ownsRow B 3 1 (.slice (some ⟨gn, 0, none⟩) l.length cn) l.length (intVs l)) (n0 : ¬inR (.slice (some ⟨bo, 0, none⟩) n cap) S.boxes g0 gn) (n1 : v1.ownBlock ≠ some gn) (n2 : ¬inR v2 S.earn g2 gn) (n3 : v3.ownBlock ≠ some gn) :
    CloneOwn (w.setCell ⟨bo, i, none⟩ (.slice (some ⟨gn, 0, none⟩) l.length cn)) B { S with boxes := S.boxes.set i l } (.slice (some ⟨bo, 0, none⟩) n cap) v1 v2 v3 (fun j => if j = i then gn else g0 j) (fun j => if j = i then cn else k0 j) g2 k2 := by
  subst hnn
  have hbut := setCell_but w bo i (.slice (some ⟨gn, 0, none⟩) l.length cn)
  have hin : inR (.slice (some ⟨bo, 0, none⟩) S.boxes.length cap) S.boxes g0 bo := Or.inl rfl
  refine ⟨h.b.setRow hi hn n0, ownsRow_but h.s hbut (h.bs bo hin), h.e.but hbut (h.be bo hin), ownsRow_but h.k hbut (h.bk bo hin), fun x hx => ?_, fun x hx => ?_, fun x hx => ?_, h.es, h.sk, h.ek⟩
  · rcases inR_set hx with hx | rfl
    · exact h.bs x hx
    · exact n1
  · rcases inR_set hx with hx | rfl
    · exact h.be x hx
    · exact n2
  · rcases inR_set hx with hx | rfl
    · exact h.bk x hx
    · exact n3
/-- the box of a keep written -/
theorem pairVs_set (l : List (Int × Int)) (m : Int) : ∀ i (h : i < l.length), (pairVs l).set (i * 2) (.int .i64 m) = pairVs (l.set i (m, l[i].2)) := by
  induction l with
  | nil => intro i h; exact absurd h (by simp)
  | cons k r ih =>
    intro i h
    cases i with
    | zero => rfl
    | succ i =>
      have := ih i (by simpa using h)
      rw [show (i + 1) * 2 = i * 2 + 1 + 1 from by omega]
      show Value.int .i64 k.1 :: Value.int .i64 k.2 :: (pairVs r).set (i * 2) (.int .i64 m) = _
      rw [this]
      rfl
theorem CloneOwn.setKeep {w : World} {B b c i n : Nat} {S : Swap} {v0 v1 v2 : Value} {g0 k0 g2 k2 : Nat → Nat} {m : Int} (hnn : n = S.keeps.length) (h : CloneOwn w B S v0 v1 v2 (.slice (some ⟨b, 0, none⟩) n c) g0 k0 g2 k2) (hi : i < S.keeps.length) :
    CloneOwn (w.setCell ⟨b, i * 2, none⟩ (.int .i64 m)) B { S with keeps := S.keeps.set i (m, S.keeps[i].2) } v0 v1 v2 (.slice (some ⟨b, 0, none⟩) n c) g0 k0 g2 k2 := by
  subst hnn
  have hbut := setCell_but w b (i * 2) (.int .i64 m)
  refine ⟨h.b.but hbut (fun k => h.bk b k rfl), ownsRow_but h.s hbut (fun k => h.sk b k rfl), h.e.but hbut (fun k => h.ek b k rfl), ?_, h.bs, h.be, h.bk, h.es, h.sk, h.ek⟩
  have := ownsRow_setV (i := i * 2) (u := .int .i64 m) h.k
  rw [pairVs_set _ _ i hi] at this
  simpa using this
theorem keeps_cell {w : World} {B g n c i : Nat} {l : List (Int × Int)} (h : w.ownsRow B 45 2 (.slice (some ⟨g, 0, none⟩) n c) n (pairVs l)) (hi : i < l.length) :
    w.cell? ⟨g, i * 2, none⟩ = some (.int .i64 l[i].1) ∧ ∀ k, w.frozen? ⟨g, k, none⟩ = false := by
  have hn : n = l.length := by have := h.1; rw [pairVs_len] at this; omega
  subst hn
  constructor
  · obtain ⟨p, c', he, hp⟩ := own_pairs h
    injection he with he1 _ _
    obtain ⟨b, o, hb, hc, -⟩ := hp i hi
    rw [hb] at he1
    cases he1
    rw [Nat.zero_add] at hc
    exact hc
  · intro k
    rcases h.2 with ⟨hv, h0⟩ | ⟨g', cap, cur, hv, hB, hg, -⟩
    · cases hv
    · cases hv
      exact cell_frozen hg k
theorem rows_cell {w : World} {B b n c : Nat} {L : List (List Int)} {g k : Nat → Nat} (h : RowsOwn w B (.slice (some ⟨b, 0, none⟩) n c) L g k) : ∀ i, w.frozen? ⟨b, i, none⟩ = false := by
  intro i
  rcases h.out.2 with ⟨hv, h0⟩ | ⟨g', cap, cur, hv, hB, hg, -⟩
  · cases hv
  · cases hv
    exact cell_frozen hg i

/-- the boxes after so many steps -/
def bxTo (S : Swap) : Nat → List (List Int)
  | 0 => S.boxes
  | i + 1 => (bxTo S i).set (S.boxes.length - 1 - i) (S.boxes.getD i [])
theorem bxTo_len (S : Swap) : ∀ i, (bxTo S i).length = S.boxes.length
  | 0 => rfl
  | i + 1 => by unfold bxTo; rw [List.length_set, bxTo_len S i]
/-- what titles earn after so many rows of a step -/
def enRow (S : Swap) (E : List (List Int)) (i : Nat) : Nat → List (List Int)
  | 0 => E
  | k + 1 => (enRow S E i k).set k (((enRow S E i k).getD k []).set (S.boxes.length - 1 - i) ((S.earn.getD k []).getD i 0))
theorem enRow_len (S : Swap) (E : List (List Int)) (i : Nat) : ∀ k, (enRow S E i k).length = E.length
  | 0 => rfl
  | k + 1 => by unfold enRow; rw [List.length_set, enRow_len S E i k]
theorem enRow_get (S : Swap) (E : List (List Int)) (i : Nat) : ∀ k, k ≤ E.length → ∀ t, (enRow S E i k).getD t [] = if t < k then (E.getD t []).set (S.boxes.length - 1 - i) ((S.earn.getD t []).getD i 0) else E.getD t []
  | 0, _, t => by simp [enRow]
  | k + 1, h, t => by
    unfold enRow
    have ih := enRow_get S E i k (by omega)
    rw [List.getD_eq_getElem?_getD, List.getElem?_set]
    by_cases e : k = t
    · subst e
      rw [if_pos rfl, if_pos (by rw [enRow_len]; omega), Option.getD_some, ih, if_neg (by omega), if_pos (by omega)]
    · rw [if_neg e, ← List.getD_eq_getElem?_getD, ih]
      by_cases e2 : t < k
      · rw [if_pos e2, if_pos (by omega)]
      · rw [if_neg e2, if_neg (by omega)]
def enTo (S : Swap) : Nat → List (List Int)
  | 0 => S.earn
  | i + 1 => enRow S (enTo S i) i S.earn.length
theorem enTo_len (S : Swap) : ∀ i, (enTo S i).length = S.earn.length
  | 0 => rfl
  | i + 1 => by unfold enTo; rw [enRow_len, enTo_len S i]
theorem enTo_get (S : Swap) (i t : Nat) (ht : t < S.earn.length) : (enTo S (i + 1)).getD t [] = ((enTo S i).getD t []).set (S.boxes.length - 1 - i) ((S.earn.getD t []).getD i 0) := by
  show (enRow S (enTo S i) i S.earn.length).getD t [] = _
  rw [enRow_get _ _ _ _ (by rw [enTo_len]; exact Nat.le_refl _), if_pos ht]
theorem enTo_out (S : Swap) (i t : Nat) (ht : S.earn.length ≤ t) : (enTo S i).getD t [] = [] := by
  simp [List.getD, List.getElem?_eq_none (by rw [enTo_len]; exact ht : (enTo S i).length ≤ t)]
theorem enTo_row (S : Swap) (t : Nat) (ht : t < S.earn.length) : ∀ i, ((enTo S i).getD t []).length = (S.earn.getD t []).length
  | 0 => rfl
  | i + 1 => by rw [enTo_get S i t ht, List.length_set, enTo_row S t ht i]
def kpTo (S : Swap) : Nat → List (Int × Int)
  | 0 => S.keeps
  | i + 1 => (kpTo S i).set i ((S.boxes.length : Int) - 1 - (S.keeps.getD i (0, 0)).1, (S.keeps.getD i (0, 0)).2)
theorem kpTo_len (S : Swap) : ∀ i, (kpTo S i).length = S.keeps.length
  | 0 => rfl
  | i + 1 => by unfold kpTo; rw [List.length_set, kpTo_len S i]
theorem kpTo_get (S : Swap) : ∀ i t, (kpTo S i)[t]? = if t < i then (S.keeps.map fun k => ((S.boxes.length : Int) - 1 - k.1, k.2))[t]? else S.keeps[t]?
  | 0, t => by simp [kpTo]
  | i + 1, t => by
    show ((kpTo S i).set i _)[t]? = _
    rw [List.getElem?_set]
    by_cases e : i = t
    · subst e
      rw [if_pos rfl, kpTo_len, if_pos (Nat.lt_succ_self _)]
      by_cases h : i < S.keeps.length
      · rw [if_pos h, List.getElem?_map, List.getElem?_eq_getElem h, getD_of_lt _ _ _ h]
        rfl
      · rw [if_neg h, List.getElem?_map, List.getElem?_eq_none (by omega)]
        rfl
    · rw [if_neg e, kpTo_get S i t]
      by_cases e2 : t < i
      · rw [if_pos e2, if_pos (by omega)]
      · rw [if_neg e2, if_neg (by omega)]
/-- all boxes turned around -/
def turnS (S : Swap) : Swap := { S with boxes := bxTo S S.boxes.length, earn := enTo S S.boxes.length, keeps := kpTo S S.keeps.length }
theorem turn_rev {S : Swap} (hS : Valid S) (h2 : S.boxes.length ≤ 2) : RevS S (turnS S) := by
  have hrow : ∀ t, t < S.earn.length → (S.earn.getD t []).length = S.boxes.length := fun t ht => by rw [getD_of_lt _ _ _ ht]; exact hS.row t ht
  have hbx : bxTo S S.boxes.length = S.boxes.reverse := by
    rcases two (l := S.boxes) rfl h2 with ⟨e, hl⟩ | ⟨x, e, hl⟩ | ⟨x, y, e, hl⟩
    · rw [hl]; unfold bxTo; rw [e]; rfl
    · rw [hl]; unfold bxTo; unfold bxTo; rw [e]; rfl
    · rw [hl]; unfold bxTo; unfold bxTo; unfold bxTo; rw [e]; rfl
  refine ⟨h2, hbx, rfl, rfl, enTo_len S _, fun t => ?_, fun t b hb => ?_, ?_⟩
  · show ((enTo S S.boxes.length).getD t []).length = _
    by_cases ht : t < S.earn.length
    · have key : ∀ i, ((enTo S i).getD t []).length = (S.earn.getD t []).length := by
        intro i
        induction i with
        | zero => rfl
        | succ i ih => rw [enTo_get S i t ht, List.length_set, ih]
      exact key _
    · rw [enTo_out S _ t (by omega)]
      simp [List.getD, List.getElem?_eq_none (by omega : S.earn.length ≤ t)]
  · show ((enTo S S.boxes.length).getD t []).getD b 0 = _
    by_cases ht : t < S.earn.length
    · have hr := hrow t ht
      rcases Nat.lt_or_ge S.boxes.length 2 with hl | hl
      · obtain rfl : b = 0 := by omega
        have h1 : S.boxes.length = 1 := by omega
        rw [h1, enTo_get S 0 t ht, h1]
        show ((S.earn.getD t []).set (1 - 1 - 0) ((S.earn.getD t []).getD 0 0)).getD 0 0 = (S.earn.getD t []).getD (1 - 1 - 0) 0
        obtain ⟨R, hR⟩ : ∃ R, R = S.earn.getD t [] := ⟨_, rfl⟩
        rw [← hR, h1] at hr
        rw [← hR]
        rcases two (l := R) hr (by omega) with ⟨e, hl⟩ | ⟨x, e, -⟩ | ⟨x, y, e, hl⟩
        · omega
        · rw [e]; rfl
        · omega
      · have h1 : S.boxes.length = 2 := by omega
        obtain ⟨R, hR⟩ : ∃ R, R = S.earn.getD t [] := ⟨_, rfl⟩
        rw [← hR, h1] at hr
        rcases two (l := R) hr (by omega) with ⟨e, hl⟩ | ⟨x, e, hl⟩ | ⟨x, y, e, -⟩
        · omega
        · omega
        · rw [h1, enTo_get S 1 t ht, enTo_get S 0 t ht, h1]
          show ((((enTo S 0).getD t []).set (2 - 1 - 0) ((S.earn.getD t []).getD 0 0)).set (2 - 1 - 1) ((S.earn.getD t []).getD 1 0)).getD b 0 = (S.earn.getD t []).getD (2 - 1 - b) 0
          rw [show (enTo S 0).getD t [] = R from hR.symm, ← hR, e]
          have hb2 : b = 0 ∨ b = 1 := by omega
          rcases hb2 with rfl | rfl <;> rfl
    · rw [enTo_out S _ t (by omega), show S.earn.getD t [] = [] from by simp [List.getD, List.getElem?_eq_none (by omega : S.earn.length ≤ t)]]
      rfl
  · show kpTo S S.keeps.length = _
    apply List.ext_getElem?
    intro t
    rw [kpTo_get]
    split
    · rfl
    · rename_i h
      rw [List.getElem?_eq_none (by omega), List.getElem?_map, List.getElem?_eq_none (by omega)]
      rfl
end Go.Proofs.Ytpgjkmjejpfkmaa
namespace Go.Proofs.Ytpgjkmjejpfkmaa
open Go.RowKit

/-- a visit that is cloned has lists of modest length -/
structure Lens (S : Swap) : Prop where
  b : S.boxes.length ≤ 1000
  br : ∀ i (h : i < S.boxes.length), S.boxes[i].length ≤ 1000
  s : S.stock.length ≤ 1000
  e : S.earn.length ≤ 1000
  er : ∀ i (h : i < S.earn.length), S.earn[i].length ≤ 1000
  k : S.keeps.length ≤ 1000
theorem lens_of {S : Swap} (h : ¬Wide S) : Lens S := by
  simp only [Wide, FarL, not_or, not_exists, not_and] at h
  obtain ⟨⟨h1, h2⟩, ⟨h3, h4⟩, h5, h6⟩ := h
  refine ⟨by omega, fun i hi => ?_, by omega, by omega, fun i hi => ?_, by omega⟩
  · have := h2 _ (List.getElem_mem hi); omega
  · have := h4 _ (List.getElem_mem hi); omega
/-- Clone, where only the reading of the clone matters -/
theorem Clone07c {W : World} (x : ExtW W) (v : Value) (S : Swap) (hv : SwapV x.w v S) (h : Lens S) :
    Calls Try.prog 16 #[v] x.w (fun e w' => ∃ r0 d0 r1 d1 r2 d2 r3 d3, e = .returned (.agg #[.slice r0 S.boxes.length d0, .slice r1 S.stock.length d1, .slice r2 S.earn.length d2, .slice r3 S.keeps.length d3, .int .i64 S.changes]) ∧
      ∃ y : ExtW W, w' = y.w ∧ SwapV y.w (.agg #[.slice r0 S.boxes.length d0, .slice r1 S.stock.length d1, .slice r2 S.earn.length d2, .slice r3 S.keeps.length d3, .int .i64 S.changes]) S) := by
  refine (Clone07 v S x.w hv h.b h.br h.s h.e h.er h.k).mono ?_
  rintro e w' ⟨v0, v1, v2, v3, g0, k0, g2, k2, B, rfl, hE, -, hco⟩
  obtain ⟨r0, d0, r1, d1, r2, d2, r3, d3, he, h1⟩ := hco.swap
  injection he with he
  injection he with he
  simp only [List.cons.injEq, and_true] at he
  obtain ⟨rfl, rfl, rfl, rfl⟩ := he
  exact ⟨r0, d0, r1, d1, r2, d2, r3, d3, rfl, ⟨w', x.h.trans hE⟩, rfl, hco.swap⟩
theorem few_vals (S : Swap) (g : Int) : ∃ n m : Int, fewV S g = .tuple #[.int .i64 n, .int .i64 m] := by
  unfold fewV
  split
  · split
    · split
      · exact ⟨_, _, rfl⟩
      · exact ⟨_, _, rfl⟩
    · exact ⟨_, _, rfl⟩
  · exact ⟨_, _, rfl⟩
theorem change_vals (S : Swap) : ∃ n m : Int, changeV S = .tuple #[.int .i64 n, .int .i64 m] := by
  unfold changeV
  split
  · exact ⟨_, _, rfl⟩
  · exact ⟨_, _, rfl⟩
theorem copy_valsK (S : Swap) (t : Int) : ∃ n m : Int, copyV S t = .tuple #[.int .i64 n, .int .i64 m] := by
  unfold copyV
  split
  · split
    · exact ⟨_, _, rfl⟩
    · exact ⟨_, _, rfl⟩
  · exact ⟨_, _, rfl⟩
theorem fair_vals (S : Swap) : ∃ n m : Int, fairV S = .tuple #[.int .i64 n, .int .i64 m] := by
  unfold fairV
  split
  · split
    · exact ⟨_, _, rfl⟩
    · exact ⟨_, _, rfl⟩
  · exact ⟨_, _, rfl⟩
end Go.Proofs.Ytpgjkmjejpfkmaa
