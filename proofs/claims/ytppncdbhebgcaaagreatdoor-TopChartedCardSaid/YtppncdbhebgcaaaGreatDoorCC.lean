
/- A few numbers sorted: insertion sort, plain law and walk; slices.Sort. Charts: the walks of nth and Cut. Charts: the walks of titles, Top and May. Charts: the walks of open and Next. Charts: the walk of Needs. Charts: how many orders there are: the walks of orders and Orders. -/
import Derived.Test.YtppncdbhebgcaaaGreatDoorCB
import Derived.Test.YtppncdbhebgcaaaGreatDoorQ9b
import Derived.Maps.OwnSet
namespace Go.Proofs.YtppncdbhebgcaaaGreatDoor
open Go.RowKit

def swpL (l : List Int) (i j : Nat) : List Int := (l.set i (l.getD j 0)).set j (l.getD i 0)
theorem swpL_len (l : List Int) (i j : Nat) : (swpL l i j).length = l.length := by simp [swpL]
theorem getD_set (l : List Int) (i : Nat) (v : Int) (k : Nat) (h : i < l.length) : (l.set i v).getD k 0 = if i = k then v else l.getD k 0 := by
  rw [List.getD_eq_getElem?_getD, List.getElem?_set]
  by_cases e : i = k
  · rw [if_pos e, if_pos e, if_pos h]; rfl
  · rw [if_neg e, if_neg e, List.getD_eq_getElem?_getD]
theorem swpL_get {l : List Int} {i j : Nat} (hi : i < l.length) (hj : j < l.length) (k : Nat) : (swpL l i j).getD k 0 = if j = k then l.getD i 0 else if i = k then l.getD j 0 else l.getD k 0 := by
  unfold swpL
  rw [getD_set _ _ _ _ (by rw [List.length_set]; exact hj), getD_set _ _ _ _ hi]
theorem swpL_perm {l : List Int} {i j : Nat} (hi : i < l.length) (hj : j < l.length) : (swpL l i j).Perm l := by
  unfold swpL
  rw [List.getD_eq_getElem?_getD, List.getD_eq_getElem?_getD, List.getElem?_eq_getElem hi, List.getElem?_eq_getElem hj]
  exact List.set_set_perm hi hj
/-- the first i are sorted -/
def SrtTo (R : Int → Int → Prop) (l : List Int) (i : Nat) : Prop := ∀ a b, a < b → b < i → R (l.getD a 0) (l.getD b 0)
/-- the first ones are sorted but for the one at j, which is still on its way -/
structure InsI (R : Int → Int → Prop) (l : List Int) (i j : Nat) : Prop where
  ji : j ≤ i
  il : i < l.length
  pr : ∀ a b, a < b → b ≤ i → b ≠ j → R (l.getD a 0) (l.getD b 0)
section
variable {R : Int → Int → Prop} {l : List Int} {i j : Nat}
theorem InsI.start (h : SrtTo R l i) (hi : i < l.length) : InsI R l i i := ⟨Nat.le_refl _, hi, fun a b hab hb hne => h a b hab (by omega)⟩
theorem InsI.stop (hT : ∀ x y z, R x y → R y z → R x z) (h : InsI R l i j) (hs : j = 0 ∨ R (l.getD (j - 1) 0) (l.getD j 0)) : SrtTo R l (i + 1) := by
  intro a b hab hb
  by_cases e : b = j
  · subst e
    rcases hs with h0 | h1
    · omega
    · by_cases c : a = b - 1
      · rw [c]; exact h1
      · exact hT _ _ _ (h.pr a (b - 1) (by omega) (by omega) (by omega)) h1
  · exact h.pr a b hab (by omega) e
theorem InsI.step (h : InsI R l i (j + 1)) (hr : R (l.getD (j + 1) 0) (l.getD j 0)) : InsI R (swpL l (j + 1) j) i j := by
  have hi := h.il
  have hji := h.ji
  refine ⟨by omega, by rw [swpL_len]; exact hi, fun a b hab hb hne => ?_⟩
  rw [swpL_get (by omega) (by omega), swpL_get (by omega) (by omega)]
  by_cases b1 : j + 1 = b
  · subst b1
    rw [if_neg (by omega : ¬j = j + 1), if_pos rfl]
    by_cases a1 : j = a
    · rw [if_pos a1]; exact hr
    · rw [if_neg a1, if_neg (by omega)]
      exact h.pr a j (by omega) (by omega) (by omega)
  · have hb' : ¬j = b := fun e => hne e.symm
    rw [if_neg hb', if_neg b1]
    by_cases a1 : j = a
    · rw [if_pos a1]; exact h.pr (j + 1) b (by omega) hb (fun e => b1 e.symm)
    · rw [if_neg a1]
      by_cases a2 : j + 1 = a
      · rw [if_pos a2]; exact h.pr j b (by omega) hb (fun e => b1 e.symm)
      · rw [if_neg a2]; exact h.pr a b hab hb (fun e => b1 e.symm)
theorem SrtTo.pairwise (h : SrtTo R l l.length) : l.Pairwise R := by
  rw [List.pairwise_iff_getElem]
  intro a b ha hb hab
  have := h a b hab hb
  rwa [List.getD_eq_getElem?_getD, List.getD_eq_getElem?_getD, List.getElem?_eq_getElem ha, List.getElem?_eq_getElem hb] at this
end
theorem getI_at {l : List Int} {i : Nat} (h : i < l.length) : l.getD i 0 = l[i] := by
  rw [List.getD_eq_getElem?_getD, List.getElem?_eq_getElem h]; rfl
set_option maxRecDepth 20000 in
theorem isNaN_i (x : Int) (w : World) : Calls Tryz.prog 144 #[.int .i64 x] w (RetE (.bool false) w) := by
  go_enter Tryz.func144, Tryz.ntmps144
  go_wp2
  go_ret
  exact RetE.fin (by repeat (first | exact Ext.refl _ | assumption | refine Ext.drewN ?_ _ | refine Ext.drew ?_ | refine Ext.alloc ?_ _)) rfl
set_option maxRecDepth 20000 in
theorem less_i (x y : Int) (w : World) : Calls Tryz.prog 117 #[.int .i64 x, .int .i64 y] w (RetE (.bool (decide (x < y))) w) := by
  have HN := Lib.hid (fun z u => isNaN_i z u)
  go_enter Tryz.func117, Tryz.ntmps117
  by_cases h : x < y
  · have HB := Lib.hid (decide_eq_true h)
    go_wp2_with (go_at_call 144; refine (HN.out _ _).mono ?_; rintro e w2 ⟨rfl, hE2⟩)
    go_ret
    exact RetE.fin hE2 (by rw [HB.out]; rfl)
  · have HB := Lib.hid (decide_eq_false h)
    go_wp2_with (go_at_call 144; refine (HN.out _ _).mono ?_; rintro e w2 ⟨rfl, hE2⟩)
    go_ret
    exact RetE.fin hE2 (by rw [HB.out]; rfl)
/-- a slice of ints of one's own, sorted in its place -/
def RetS (B g n cap : Nat) (l : List Int) (w : World) (e : Ending) (w' : World) : Prop :=
  e = .returned (.tuple #[]) ∧ ∃ l', l'.Perm l ∧ l'.Pairwise (· ≤ ·) ∧ Ups g w w' ∧ w'.ownsRow B 3 1 (.slice (some ⟨g, 0, none⟩) n cap) n (intVs l')

set_option maxRecDepth 20000 in
set_option maxHeartbeats 3200000 in
theorem insertion_i (B g n cap : Nat) (l : List Int) (hl : l.length = n) (hn : n ≤ 1000) (w : World) (hO : w.ownsRow B 3 1 (.slice (some ⟨g, 0, none⟩) n cap) n (intVs l)) :
    Calls Tryz.prog 111 #[.slice (some ⟨g, 0, none⟩) n cap, .int .i64 0, .int .i64 n] w (RetS B g n cap l w) := by
  have HO := Lib.hid hO
  have HL : EqS l.length n := ⟨hl⟩
  clear hO hl
  go_enter Tryz.func111, Tryz.ntmps111
  go_wp2
  go_loopw [6] (fun a wr => ∃ (i : Nat) (m : List Int), a = .int .i64 i ∧ 1 ≤ i ∧ i ≤ n + 1 ∧ m.length = n ∧ m.Perm l ∧ SrtTo (· ≤ ·) m (min i n) ∧ Ups g w wr ∧ wr.ownsRow B 3 1 (.slice (some ⟨g, 0, none⟩) n cap) n (intVs m)) (fun a _ => n + 1 - (intOf a).toNat)
  case atStart => exact ⟨1, l, rfl, Nat.le_refl _, by omega, HL.out, List.Perm.refl _, fun a b hab hb => by omega, Ups.refl _ _, HO.out⟩
  case round =>
    obtain ⟨i, m, rfl, hi1, hin, hml, hp, hs, hU, hO⟩ := hrel
    by_cases hlt : i < n
    · have hlt' : (i : Int) < (n : Int) := by omega
      have HSI := Lib.hid (InsI.start (R := (· ≤ ·)) (by rw [Nat.min_eq_left (by omega)] at hs; exact hs) (show i < m.length by omega))
      have HM : EqS m.length n := ⟨hml⟩
      have HP := Lib.hid hp
      have HU := Lib.hid hU
      have HO1 := Lib.hid hO
      clear hml hp hs hU hO
      go_wp2
      go_loopw [7] (fun a wr2 => ∃ (j : Nat) (k : List Int), a = .int .i64 j ∧ k.length = n ∧ k.Perm l ∧ InsI (· ≤ ·) k i j ∧ Ups g w wr2 ∧ wr2.ownsRow B 3 1 (.slice (some ⟨g, 0, none⟩) n cap) n (intVs k)) (fun a _ => (intOf a).toNat)
      case atStart => exact ⟨i, m, rfl, HM.out, HP.out, HSI.out, HU.out, HO1.out⟩
      case round =>
        obtain ⟨j, k, rfl, hkl, hp, hI, hU, hO⟩ := hrel
        have hji := hI.ji
        have HKL : EqS k.length n := ⟨hkl⟩
        have HI := Lib.hid hI
        have HP2 := Lib.hid hp
        have HU2 := Lib.hid hU
        have HO2 := Lib.hid hO
        clear hkl hp hI hU
        by_cases hj0 : j = 0
        · subst hj0
          have HST := Lib.hid (InsI.stop (R := (· ≤ ·)) (fun _ _ _ h h2 => Int.le_trans h h2) HI.out (Or.inl rfl))
          obtain ⟨x0, hx0⟩ := ExtW.of (Ext.refl wr)
          clear hO
          conv => arg 5; rw [hx0]
          have HX := Lib.hid hx0
          clear hx0
          go_upto_region 4 with (fail)
          refine wp_region_extW (by kernel_rfl) (by kernel_rfl) ?_
          repeat (go_big_quiet_step (fail))
          refine wpQuiet_nil ?_
          rintro _ ⟨x2, rfl⟩
          have hE2 : Ext wr x2.w := x2.h
          have HE2 := Lib.hid hE2
          clear hE2
          go_wp2
          go_roundw
          case rel => exact ⟨i + 1, k, by simp, by omega, by omega, HKL.out, HP2.out, by rw [Nat.min_eq_left (by omega)]; exact HST.out, HU2.out.trans (Ups.ext HE2.out), ownsRow_ext HO2.out HE2.out⟩
          case measure => simp [intOf]; omega
        · obtain ⟨p, rfl⟩ : ∃ p, j = p + 1 := ⟨j - 1, by omega⟩
          have hj1 : (0 : Int) < (p : Int) + 1 := by omega
          have hpn : p + 1 < k.length := by have := HKL.out; omega
          obtain ⟨c1, z1⟩ := ownsRow_cell hO (i := p + 1) hpn
          obtain ⟨c0, z0⟩ := ownsRow_cell hO (i := p) (by omega)
          rw [← getI_at hpn] at c1
          rw [← getI_at (show p < k.length by omega)] at c0
          have hstep := HI.out.step
          have hstop := InsI.stop (R := (· ≤ ·)) (fun _ _ _ h h' => Int.le_trans h h') HI.out
          rw [show p + 1 - 1 = p from rfl] at hstop
          have hperm := swpL_perm hpn (show p < k.length by omega)
          have hswp : swpL k (p + 1) p = (k.set (p + 1) (k.getD p 0)).set p (k.getD (p + 1) 0) := rfl
          obtain ⟨b, hb⟩ : ∃ b, b = k.getD (p + 1) 0 := ⟨_, rfl⟩
          obtain ⟨a, ha⟩ : ∃ a, a = k.getD p 0 := ⟨_, rfl⟩
          rw [← hb, ← ha] at hstep hstop hswp
          rw [← hb] at c1
          rw [← ha] at c0
          have HST := Lib.hid hstep
          have HSP := Lib.hid hstop
          have HPM := Lib.hid hperm
          have HSW := Lib.hid hswp
          have k1 := ExtW.cell c1
          have k0 := ExtW.cell c0
          have hlt1 : (p : Int) + 1 < (n : Int) := by have := HKL.out; omega
          have hlt0 : (p : Int) < (n : Int) := by omega
          have hw0 : IntKind.i64.wrap (p : Int) = (p : Int) := IntWalk.i64_in _ (by omega)
          have hp0 : (0 : Int) ≤ (p : Int) + 1 := by omega
          have hpt : ((p : Int) + 1).toNat = p + 1 := by omega
          have HLS := Lib.hid (fun x : ExtW wr => ExtW.call (x := x) (less_i b a x.w))
          obtain ⟨x0, hx0⟩ := ExtW.of (Ext.refl wr)
          clear hO hb ha hstep hstop hperm hswp c0 c1 z0 z1 hj0
          conv => arg 5; rw [hx0]
          have HX := Lib.hid hx0
          clear hx0
          by_cases hba : b < a
          · rw [decide_eq_true hba] at HLS
            go_upto_region 4 with (fail)
            refine wp_region_extW (by kernel_rfl) (by kernel_rfl) ?_
            repeat (go_big_quiet_step ((go_at_call 117; exact HLS.out _)))
            refine wpQuiet_nil ?_
            rintro _ ⟨x2, rfl⟩
            obtain ⟨W4, hW4⟩ : ∃ W4, W4 = x2.w := ⟨_, rfl⟩
            have hE4 : Ext wr W4 := by rw [hW4]; exact x2.h
            rw [← hW4]
            have HE4 := Lib.hid hE4
            have HO4 := Lib.hid (ownsRow_ext HO2.out hE4)
            have HKC := Lib.hid (fun y (h : Ext W4 y) => (by
              have h3 := ownsRow_ext HO4.out h
              obtain ⟨c1, z1⟩ := ownsRow_cell h3 (i := p + 1) hpn
              exact ⟨(k1 ⟨y, hE4.trans h⟩), (k0 ⟨y, hE4.trans h⟩), z1, h3⟩ :
              y.cell? ⟨g, p + 1, none⟩ = some (.int .i64 b) ∧ y.cell? ⟨g, p, none⟩ = some (.int .i64 a) ∧ y.frozen? ⟨g, p + 1, none⟩ = false ∧ y.ownsRow B 3 1 (.slice (some ⟨g, 0, none⟩) n cap) n (intVs k)))
            clear hW4 hE4 k0 k1 HLS HX
            go_upto_region 6 with (fail)
            refine wp_region_facts2 16 [[], [], [], [], [3], [], [], [6], [5, 7], [8], [], [], [10, 11], [12], [0, 1], [14, 9]] [2, 4, 13, 15] 15 [9, 13] Ext (Ups g) (FL [Is (.slice (some ⟨g, 0, none⟩) n cap), Is (.int .i64 ((p : Int) + 1)), Is (.slice (some ⟨g, 0, none⟩) n cap), Is (.int .i64 ((p : Int) + 1)), Is (.int .i64 (p : Int)), Is (.slice (some ⟨g, 0, none⟩) n cap), Is (.int .i64 ((p : Int) + 1)), Is (.int .i64 (p : Int)), Is (.pointer (some ⟨g, p, none⟩)), Is (.int .i64 a), Is (.slice (some ⟨g, 0, none⟩) n cap), Is (.int .i64 ((p : Int) + 1)), Is (.pointer (some ⟨g, p + 1, none⟩)), Is (.int .i64 b), Is (.pointer (some ⟨g, p + 1, none⟩)), fun _ _ _ w => w.ownsRow B 3 1 (.slice (some ⟨g, 0, none⟩) n cap) n (intVs (k.set (p + 1) a))]) (by kernel_rfl) (by kernel_rfl) (by kernel_rfl) (fun _ _ => Ups.ext) (fun _ _ _ => Ext.trans) Ext.refl (Ups.refl _) (fun _ _ _ => Ups.trans) (fun _ _ h => h.size) ?_ ?_ ⟨?_, ?_, ?_, ?_, ?_, ?_, ?_, ?_, ?_, ?_, ?_, ?_, ?_, ?_, ?_, ?_, trivial⟩ ?_
            · exact FL.mono ⟨Is.mono, Is.mono, Is.mono, Is.mono, Is.mono, Is.mono, Is.mono, Is.mono, Is.mono, Is.mono, Is.mono, Is.mono, Is.mono, Is.mono, Is.mono, fun _ _ _ _ _ h hb => ownsRow_ext hb h, trivial⟩
            · intro j v s t w w' hj hr
              match j, hj with
              | 0, _ => exact fun h => h
              | 1, _ => exact fun h => h
              | 2, _ => exact fun h => h
              | 3, _ => exact fun h => h
              | 4, _ => exact fun h => h
              | 5, _ => exact fun h => h
              | 6, _ => exact fun h => h
              | 7, _ => exact fun h => h
              | 8, _ => exact fun h => h
              | 9, _ => exact fun h => h
              | 10, _ => exact fun h => h
              | 11, _ => exact fun h => h
              | 12, _ => exact fun h => h
              | 13, _ => exact fun h => h
              | 14, _ => exact fun h => h
              | 15, hj => exact absurd rfl hj
              | n + 16, _ => exact fun h => h
            · refine opF2_step ?_
              intro ys l0 h0 w' hr hs hf K hK
              clear hf
              clear hs
              simp only [fill, Act.put, dstO, List.take_succ_cons, List.take_zero, List.setIfInBounds_toArray, List.set_cons_zero, List.set_cons_succ, List.getElem?_cons_zero, Nat.zero_add, Nat.reduceAdd] at hK ⊢
              refine OpB.mk' ?_
              go_simp
              exact hK.out _ _ rfl (fun h => by cases h) (fun _ => Ext.refl _)
            · refine opF2_step ?_
              intro ys l0 h0 w' hr hs hf K hK
              clear hf
              clear hs
              simp only [fill, Act.put, dstO, List.take_succ_cons, List.take_zero, List.setIfInBounds_toArray, List.set_cons_zero, List.set_cons_succ, List.getElem?_cons_zero, List.getElem?_cons_succ, Nat.zero_add, Nat.reduceAdd] at hK ⊢
              refine OpB.mk' ?_
              go_simp
              exact hK.out _ _ rfl (fun h => by cases h) (fun _ => Ext.refl _)
            · refine opF2_step ?_
              intro ys l0 h0 w' hr hs hf K hK
              clear hf
              clear hs
              simp only [fill, Act.put, dstO, List.take_succ_cons, List.take_zero, List.setIfInBounds_toArray, List.set_cons_zero, List.set_cons_succ, List.getElem?_cons_zero, List.getElem?_cons_succ, Nat.zero_add, Nat.reduceAdd] at hK ⊢
              refine OpB.mk' ?_
              go_simp
              exact hK.out _ _ rfl (fun h => by cases h) (fun _ => Ext.refl _)
            · refine opF2_step ?_
              intro ys l0 h0 w' hr hs hf K hK
              clear hf
              clear hs
              simp only [fill, Act.put, dstO, List.take_succ_cons, List.take_zero, List.setIfInBounds_toArray, List.set_cons_zero, List.set_cons_succ, List.getElem?_cons_zero, List.getElem?_cons_succ, Nat.zero_add, Nat.reduceAdd] at hK ⊢
              refine OpB.mk' ?_
              go_simp
              exact hK.out _ _ rfl (fun h => by cases h) (fun _ => Ext.refl _)
            · refine opF2_step ?_
              intro ys l0 h0 w' hr hs hf K hK
              obtain ⟨f0, -⟩ := hf
              have e0 : ys 3 = _ := f0
              clear hs
              simp only [fill, Act.put, dstO, List.take_succ_cons, List.take_zero, List.setIfInBounds_toArray, List.set_cons_zero, List.set_cons_succ, List.getElem?_cons_zero, List.getElem?_cons_succ, Nat.zero_add, Nat.reduceAdd] at hK ⊢
              simp only [e0] at hK ⊢
              clear e0 f0
              refine OpB.mk' ?_
              go_simp
              exact hK.out _ _ rfl (fun h => by cases h) (fun _ => Ext.refl _)
            · refine opF2_step ?_
              intro ys l0 h0 w' hr hs hf K hK
              clear hf
              clear hs
              simp only [fill, Act.put, dstO, List.take_succ_cons, List.take_zero, List.setIfInBounds_toArray, List.set_cons_zero, List.set_cons_succ, List.getElem?_cons_zero, List.getElem?_cons_succ, Nat.zero_add, Nat.reduceAdd] at hK ⊢
              refine OpB.mk' ?_
              go_simp
              exact hK.out _ _ rfl (fun h => by cases h) (fun _ => Ext.refl _)
            · refine opF2_step ?_
              intro ys l0 h0 w' hr hs hf K hK
              clear hf
              clear hs
              simp only [fill, Act.put, dstO, List.take_succ_cons, List.take_zero, List.setIfInBounds_toArray, List.set_cons_zero, List.set_cons_succ, List.getElem?_cons_zero, List.getElem?_cons_succ, Nat.zero_add, Nat.reduceAdd] at hK ⊢
              refine OpB.mk' ?_
              go_simp
              exact hK.out _ _ rfl (fun h => by cases h) (fun _ => Ext.refl _)
            · refine opF2_step ?_
              intro ys l0 h0 w' hr hs hf K hK
              obtain ⟨f0, -⟩ := hf
              have e0 : ys 6 = _ := f0
              clear hs
              simp only [fill, Act.put, dstO, List.take_succ_cons, List.take_zero, List.setIfInBounds_toArray, List.set_cons_zero, List.set_cons_succ, List.getElem?_cons_zero, List.getElem?_cons_succ, Nat.zero_add, Nat.reduceAdd] at hK ⊢
              simp only [e0] at hK ⊢
              clear e0 f0
              refine OpB.mk' ?_
              go_simp
              exact hK.out _ _ rfl (fun h => by cases h) (fun _ => Ext.refl _)
            · refine opF2_step ?_
              intro ys l0 h0 w' hr hs hf K hK
              obtain ⟨f0, f1, -⟩ := hf
              have e0 : ys 5 = _ := f0
              have e1 : ys 7 = _ := f1
              clear hs
              simp only [fill, Act.put, dstO, List.take_succ_cons, List.take_zero, List.setIfInBounds_toArray, List.set_cons_zero, List.set_cons_succ, List.getElem?_cons_zero, List.getElem?_cons_succ, Nat.zero_add, Nat.reduceAdd] at hK ⊢
              simp only [e0, e1] at hK ⊢
              clear e0 e1 f0 f1
              refine OpB.mk' ?_
              go_simp
              exact hK.out _ _ rfl (fun h => by cases h) (fun _ => Ext.refl _)
            · refine opF2_step ?_
              intro ys l0 h0 w' hr hs hf K hK
              obtain ⟨f0, -⟩ := hf
              have e0 : ys 8 = _ := f0
              obtain ⟨j1, j0, jz, jo⟩ := HKC.out w' ((Ext.refl W4).drew.trans (hs (by first | exact Or.inr rfl | exact Or.inl rfl)))
              clear hs
              simp only [fill, Act.put, dstO, List.take_succ_cons, List.take_zero, List.setIfInBounds_toArray, List.set_cons_zero, List.set_cons_succ, List.getElem?_cons_zero, List.getElem?_cons_succ, Nat.zero_add, Nat.reduceAdd] at hK ⊢
              simp only [e0] at hK ⊢
              clear e0 f0
              refine OpB.mk' ?_
              go_simp
              exact hK.out _ _ rfl (fun h => by cases h) (fun _ => Ext.refl _)
            · refine opF2_step ?_
              intro ys l0 h0 w' hr hs hf K hK
              clear hf
              clear hs
              simp only [fill, Act.put, dstO, List.take_succ_cons, List.take_zero, List.setIfInBounds_toArray, List.set_cons_zero, List.set_cons_succ, List.getElem?_cons_zero, List.getElem?_cons_succ, Nat.zero_add, Nat.reduceAdd] at hK ⊢
              refine OpB.mk' ?_
              go_simp
              exact hK.out _ _ rfl (fun h => by cases h) (fun _ => Ext.refl _)
            · refine opF2_step ?_
              intro ys l0 h0 w' hr hs hf K hK
              clear hf
              clear hs
              simp only [fill, Act.put, dstO, List.take_succ_cons, List.take_zero, List.setIfInBounds_toArray, List.set_cons_zero, List.set_cons_succ, List.getElem?_cons_zero, List.getElem?_cons_succ, Nat.zero_add, Nat.reduceAdd] at hK ⊢
              refine OpB.mk' ?_
              go_simp
              exact hK.out _ _ rfl (fun h => by cases h) (fun _ => Ext.refl _)
            · refine opF2_step ?_
              intro ys l0 h0 w' hr hs hf K hK
              obtain ⟨f0, f1, -⟩ := hf
              have e0 : ys 10 = _ := f0
              have e1 : ys 11 = _ := f1
              clear hs
              simp only [fill, Act.put, dstO, List.take_succ_cons, List.take_zero, List.setIfInBounds_toArray, List.set_cons_zero, List.set_cons_succ, List.getElem?_cons_zero, List.getElem?_cons_succ, Nat.zero_add, Nat.reduceAdd] at hK ⊢
              simp only [e0, e1] at hK ⊢
              clear e0 e1 f0 f1
              refine OpB.mk' ?_
              go_simp
              exact hK.out _ _ rfl (fun h => by cases h) (fun _ => Ext.refl _)
            · refine opF2_step ?_
              intro ys l0 h0 w' hr hs hf K hK
              obtain ⟨f0, -⟩ := hf
              have e0 : ys 12 = _ := f0
              obtain ⟨j1, j0, jz, jo⟩ := HKC.out w' ((Ext.refl W4).drew.trans (hs (by first | exact Or.inr rfl | exact Or.inl rfl)))
              clear hs
              simp only [fill, Act.put, dstO, List.take_succ_cons, List.take_zero, List.setIfInBounds_toArray, List.set_cons_zero, List.set_cons_succ, List.getElem?_cons_zero, List.getElem?_cons_succ, Nat.zero_add, Nat.reduceAdd] at hK ⊢
              simp only [e0] at hK ⊢
              clear e0 f0
              refine OpB.mk' ?_
              go_simp
              exact hK.out _ _ rfl (fun h => by cases h) (fun _ => Ext.refl _)
            · refine opF2_step ?_
              intro ys l0 h0 w' hr hs hf K hK
              obtain ⟨f0, f1, -⟩ := hf
              have e0 : ys 0 = _ := f0
              have e1 : ys 1 = _ := f1
              clear hs
              simp only [fill, Act.put, dstO, List.take_succ_cons, List.take_zero, List.setIfInBounds_toArray, List.set_cons_zero, List.set_cons_succ, List.getElem?_cons_zero, List.getElem?_cons_succ, Nat.zero_add, Nat.reduceAdd] at hK ⊢
              simp only [e0, e1] at hK ⊢
              clear e0 e1 f0 f1
              refine OpB.mk' ?_
              go_simp
              exact hK.out _ _ rfl (fun h => by cases h) (fun _ => Ext.refl _)
            · refine opF2_step ?_
              intro ys l0 h0 w' hr hs hf K hK
              obtain ⟨f0, f1, -⟩ := hf
              have e0 : ys 14 = _ := f0
              have e1 : ys 9 = _ := f1
              obtain ⟨j1, j0, jz, jo⟩ := HKC.out w' ((Ext.refl W4).drew.trans (hs (by first | exact Or.inr rfl | exact Or.inl rfl)))
              clear hs
              simp only [fill, Act.put, dstO, List.take_succ_cons, List.take_zero, List.setIfInBounds_toArray, List.set_cons_zero, List.set_cons_succ, List.getElem?_cons_zero, List.getElem?_cons_succ, Nat.zero_add, Nat.reduceAdd] at hK ⊢
              simp only [e0, e1] at hK ⊢
              clear e0 e1 f0 f1
              refine OpB.mk' ?_
              go_simp
              refine hK.out undef _ ?_ (fun _ => (Ups.refl _ _).setCell _ _) (fun h => absurd rfl h)
              exact ownsRow_set jo
            intro ys l0 h0 w2 hr hf hsp
            obtain ⟨f2, f4, f13, f15, -⟩ := hf
            have e2 : ys 2 = _ := f2
            have e4 : ys 4 = _ := f4
            have e13 : ys 13 = _ := f13
            have hO2 := f15
            simp only [fill, Act.put, List.take_succ_cons, List.take_zero, List.setIfInBounds_toArray, List.set_cons_zero, List.set_cons_succ, Nat.zero_add, Nat.reduceAdd, List.drop_succ_cons, List.drop_zero]
            rw [e2, e4, e13]
            clear e2 f2 e4 f4 e13 f13
            clear hsp
            obtain ⟨d0, g0⟩ := ownsRow_cell hO2 (i := p) (by rw [List.length_set]; omega)
            have HO5 := Lib.hid hO2
            have hU5 : Ups g w w2 := (HU2.out.trans (Ups.ext HE4.out)).trans ((Ups.refl g W4).drew.trans hr)
            have HU5 := Lib.hid hU5
            clear hO2 hr hU5
            go_wp2
            go_roundw
            case rel => exact ⟨p, _, by simp, by rw [swpL_len]; exact HKL.out, HPM.out.trans HP2.out, HST.out (Int.le_of_lt hba), HU5.out.setCell _ _, by rw [HSW.out]; exact ownsRow_set HO5.out⟩
            case measure => simp [intOf]
          · rw [decide_eq_false hba] at HLS
            go_upto_region 4 with (fail)
            refine wp_region_extW (by kernel_rfl) (by kernel_rfl) ?_
            repeat (go_big_quiet_step ((go_at_call 117; exact HLS.out _)))
            refine wpQuiet_nil ?_
            rintro _ ⟨x2, rfl⟩
            have HE2 := Lib.hid x2.h
            have HS3 := Lib.hid (HSP.out (Or.inr (by omega)))
            clear k0 k1 HLS HX
            go_wp2
            go_roundw
            case rel => exact ⟨i + 1, k, by simp, by omega, by omega, HKL.out, HP2.out, by rw [Nat.min_eq_left (by omega)]; exact HS3.out, HU2.out.trans (Ups.ext HE2.out), ownsRow_ext HO2.out HE2.out⟩
            case measure => simp [intOf]; omega
    · have hge : ¬(i : Int) < (n : Int) := by omega
      have HF := Lib.hid (⟨m, hp, SrtTo.pairwise (by rw [Nat.min_eq_right (by omega)] at hs; rw [hml]; exact hs), hU, hO⟩ : ∃ l', l'.Perm l ∧ l'.Pairwise (· ≤ ·) ∧ Ups g w wr ∧ wr.ownsRow B 3 1 (.slice (some ⟨g, 0, none⟩) n cap) n (intVs l'))
      clear hml hp hs hU hO
      go_wp2
      (try simp only [Exit.inBlock, Exit.then])
      refine bodyPost_ret (results_none rfl _ _ _) rfl ?_
      exact ⟨rfl, HF.out⟩

set_option maxRecDepth 20000 in
set_option maxHeartbeats 1600000 in
theorem len64_small (n : Nat) (hn : n ≤ 12) (w : World) : Calls Tryz.prog 110 #[.int .u64 n] w (fun e w' => (∃ l : Int, e = .returned (.int .i64 l)) ∧ Ext w w') := by
  go_enter Tryz.func110, Tryz.ntmps110
  have : n = 0 ∨ n = 1 ∨ n = 2 ∨ n = 3 ∨ n = 4 ∨ n = 5 ∨ n = 6 ∨ n = 7 ∨ n = 8 ∨ n = 9 ∨ n = 10 ∨ n = 11 ∨ n = 12 := by omega
  rcases this with rfl | rfl | rfl | rfl | rfl | rfl | rfl | rfl | rfl | rfl | rfl | rfl | rfl
  all_goals
    go_wp2
    go_ret
    exact ⟨⟨_, rfl⟩, (by repeat (first | exact Ext.refl _ | assumption | refine Ext.drewN ?_ _ | refine Ext.drew ?_ | refine Ext.alloc ?_ _))⟩
set_option maxRecDepth 20000 in
theorem len_small (n : Nat) (hn : n ≤ 12) (w : World) : Calls Tryz.prog 81 #[.int .u64 n] w (fun e w' => (∃ l : Int, e = .returned (.int .i64 l)) ∧ Ext w w') := by
  have HL := Lib.hid (fun y => len64_small n hn y)
  go_enter Tryz.func81, Tryz.ntmps81
  go_wp2_with (go_at_call 110; refine (HL.out _).mono ?_; rintro e w2 ⟨⟨l, rfl⟩, hE2⟩)
  go_ret
  exact ⟨⟨_, rfl⟩, hE2⟩
set_option maxRecDepth 20000 in
set_option maxHeartbeats 1600000 in
theorem pdq_i (B g n cap : Nat) (l : List Int) (lim : Int) (hl : l.length = n) (hn : n ≤ 12) (w : World) (hO : w.ownsRow B 3 1 (.slice (some ⟨g, 0, none⟩) n cap) n (intVs l)) :
    Calls Tryz.prog 82 #[.slice (some ⟨g, 0, none⟩) n cap, .int .i64 0, .int .i64 n, .int .i64 lim] w (RetS B g n cap l w) := by
  have HI := Lib.hid (insertion_i B g n cap l hl (by omega) w hO)
  have hn' : (n : Int) ≤ 12 := by omega
  have hw : IntKind.i64.wrap (n : Int) = (n : Int) := IntWalk.i64_in _ (by omega)
  clear hl hO
  go_enter Tryz.func82, Tryz.ntmps82
  go_wp2
  refine wp_loop_rounds 1 ?_
  rw [rounds_succ]
  go_wp2_with (go_at_call 111; refine HI.out.mono ?_; rintro e w2 ⟨rfl, hR⟩)
  (try simp only [Exit.inBlock, Exit.then])
  refine bodyPost_ret (results_none rfl _ _ _) rfl ?_
  exact ⟨rfl, hR⟩
set_option maxRecDepth 20000 in
set_option maxHeartbeats 1600000 in
theorem Sort_i (B g n cap : Nat) (l : List Int) (hl : l.length = n) (hn : n ≤ 12) (w : World) (hO : w.ownsRow B 3 1 (.slice (some ⟨g, 0, none⟩) n cap) n (intVs l)) :
    Calls Tryz.prog 56 #[.slice (some ⟨g, 0, none⟩) n cap] w (RetS B g n cap l w) := by
  have HI := Lib.hid (fun lim y (h : Ext w y) => pdq_i B g n cap l lim hl hn y (ownsRow_ext hO h))
  have HN := Lib.hid (fun y => len_small n hn y)
  have hw : IntKind.u64.wrap (n : Int) = (n : Int) := by rw [IntKind.wrap_u64]; omega
  clear hl hO
  go_enter Tryz.func56, Tryz.ntmps56
  go_wp2_with (first
    | (go_at_call 81; refine (HN.out _).mono ?_; rintro e w2 ⟨⟨lim, rfl⟩, hE2⟩)
    | (go_at_call 82; refine (HI.out _ _ hE2).mono ?_; rintro e w3 ⟨rfl, l', h1, h2, h3, h4⟩))
  (try simp only [Exit.inBlock, Exit.then])
  refine bodyPost_ret (results_none rfl _ _ _) rfl ?_
  exact ⟨rfl, l', h1, h2, (Ups.ext hE2).trans h3, h4⟩
end Go.Proofs.YtppncdbhebgcaaaGreatDoor
namespace Go.Proofs.YtppncdbhebgcaaaGreatDoor
open Go.RowKit

set_option maxRecDepth 20000 in
set_option maxHeartbeats 3200000 in
theorem nthLo06 (T : Tab) (hG : TabG T) (k : Nat) (h1 : 1 ≤ k) (h2 : k ≤ T.length) (q : Option Addr) (c : Nat) (w : World) (hv : ListsAt w q T) :
    Calls Tryz.prog 35 #[.slice q T.length c, .func (.func 36) #[] #[], .int .i64 k] w (RetE (.int .i64 (cutN T.length (loT T) k)) w) := by
  have hn6 := hG.len
  have HV := Lib.hid (fun j (hj : j < T.length) y (h : Ext w y) => (low06 T hG.ok j hj q c y (hv.ext h) : Calls Tryz.prog 36 #[.slice q T.length c, .int .i64 j] y (RetE (.int .i64 (loT T j)) y)))
  have HCS := Lib.hid (fun (l : List Int) hs hp hl => cut_sorted (n := T.length) (x := loT T) (l := l) (k := k) hs hp h1 h2 hl)
  obtain ⟨x, hx⟩ : ∃ x : Nat → Int, x = loT T := ⟨_, rfl⟩
  rw [← hx] at HV HCS ⊢
  obtain ⟨n, hn⟩ : ∃ n, n = T.length := ⟨_, rfl⟩
  rw [← hn] at HV HCS hn6 h2 ⊢
  obtain ⟨i0, hi, hz0, hz1, hz2⟩ := info_parts info_a
  clear hv hG hx hn
  have h2' : (k : Int) ≤ (n : Int) := by omega
  go_enter Tryz.func35, Tryz.ntmps35
  go_wp2
  go_loopw [7, 11] (fun u i wr => ∃ j : Nat, j ≤ n ∧ i = .int .i64 j ∧ Ext w wr ∧ wr.ownsRow w.heap.size 3 1 u j (intVs ((List.range j).map x))) (fun _ i _ => n - (intOf i).toNat)
  case atStart => exact ⟨0, Nat.zero_le _, rfl, Ext.refl _, World.ownsRow_nil _ _ _ _⟩
  case round =>
    obtain ⟨j, hj, rfl, hE, hO⟩ := hrel
    have HE := Lib.hid hE
    have HO := Lib.hid hO
    clear hE hO
    by_cases hlt : j < n
    · have hlt' : (j : Int) < (n : Int) := by omega
      have HC := Lib.hid (HV.out j hlt wr HE.out)
      have HPN := Lib.hid (show (List.range (j + 1)).map x = (List.range j).map x ++ [x j] from by rw [List.range_succ, List.map_append]; rfl)
      obtain ⟨a, ha⟩ : ∃ a, a = x j := ⟨_, rfl⟩
      rw [← ha] at HC HPN
      clear ha
      go_wp2_with (first
        | (go_at_call 36; refine HC.out.mono ?_; rintro e w2 ⟨rfl, hE2⟩)
        | (at_builtin; refine wpList_append_lies _ rfl (.tmp 14) (.tmp 19) 23 rfl w.heap.size 3 i0 (.int .i64 0) 1 8 Tryz.underlying23 hi hz0 hz1 hz2 rfl (by decide) _ j _ rfl (ownsRow_ext HO.out (hE2.alloc _)) ⟨w2.heap.size, 0, none⟩ 1 1 [.int .i64 a] rfl rfl (hnewsE (Ext.refl _) rfl) (one_int _) (by decide) ?c3 ?c4 ?c5 (w2.heap.size + 1) (size_alloc _ _) ?_))
      case c3 => unfold maxLen; omega
      case c4 => omega
      case c5 => have := HE.out.size; have := hE2.size; first | omega | (rw [size_alloc]; omega)
      intro g4 cap4 w4 hown4 hgr4 hat4 hlt4
      have hE4 : Ext w w4 := Below.grown (HE.out.trans (hE2.alloc _)) hgr4 (HE.out.trans (hE2.alloc _)).size (fun i hi => (HO.out.lt i hi).1)
      have HO4 := Lib.hid hown4
      have HE4 := Lib.hid hE4
      clear hown4 hgr4 hat4 hlt4 hE4 hE2
      go_wp2
      go_roundw
      case rel => exact ⟨j + 1, by omega, by simp, HE4.out, by rw [HPN.out, intVs_snoc]; exact HO4.out⟩
      case measure => simp [intOf]; omega
    · obtain rfl : j = n := by omega
      have hge : ¬(j : Int) < (j : Int) := by omega
      obtain ⟨g, cg, rfl, -⟩ := ownsRow_at HO.out 0 (by omega)
      have HSO := Lib.hid (Sort_i w.heap.size g j cg ((List.range j).map x) (by simp) (by omega) wr HO.out)
      have hgB := (HO.out.lt g rfl).1
      have HGB := Lib.hid hgB
      clear hgB
      go_upto_region 8 with (go_at_call 56; refine HSO.out.mono ?_; rintro e w2 ⟨rfl, l', hp, hs, hU, hO2⟩)
      have hll : l'.length = j := by rw [hp.length_eq]; simp
      obtain ⟨m, hm⟩ : ∃ m, m = j - k := ⟨_, rfl⟩
      have hml : m < l'.length := by omega
      obtain ⟨hc, -⟩ := ownsRow_cell hO2 (i := m) hml
      have hcs := HCS.out l' hs hp (by omega)
      have e : l'[j - k]'(by omega) = l'[m] := by congr 1; omega
      rw [e] at hcs
      rw [hcs] at hc
      have hw : IntKind.i64.wrap ((j : Int) - (k : Int)) = (m : Int) := by rw [IntKind.wrap_i64]; omega
      have hm0 : (m : Int) < (j : Int) := by omega
      have HEE := Lib.hid (HE.out.ups hU HGB.out)
      clear hp hs hU hO2 hll hcs e hm hml HSO
      go_wp2
      go_ret
      exact RetE.fin HEE.out rfl

set_option maxRecDepth 20000 in
set_option maxHeartbeats 3200000 in
theorem nthHi06 (T : Tab) (hG : TabG T) (k : Nat) (h1 : 1 ≤ k) (h2 : k ≤ T.length) (q : Option Addr) (c : Nat) (w : World) (hv : ListsAt w q T) :
    Calls Tryz.prog 35 #[.slice q T.length c, .func (.func 37) #[] #[], .int .i64 k] w (RetE (.int .i64 (cutN T.length (hiT T) k)) w) := by
  have hn6 := hG.len
  have HV := Lib.hid (fun j (hj : j < T.length) y (h : Ext w y) => (high06 T hG.ok j hj hG.ls q c y (hv.ext h) : Calls Tryz.prog 37 #[.slice q T.length c, .int .i64 j] y (RetE (.int .i64 (hiT T j)) y)))
  have HCS := Lib.hid (fun (l : List Int) hs hp hl => cut_sorted (n := T.length) (x := hiT T) (l := l) (k := k) hs hp h1 h2 hl)
  obtain ⟨x, hx⟩ : ∃ x : Nat → Int, x = hiT T := ⟨_, rfl⟩
  rw [← hx] at HV HCS ⊢
  obtain ⟨n, hn⟩ : ∃ n, n = T.length := ⟨_, rfl⟩
  rw [← hn] at HV HCS hn6 h2 ⊢
  obtain ⟨i0, hi, hz0, hz1, hz2⟩ := info_parts info_a
  clear hv hG hx hn
  have h2' : (k : Int) ≤ (n : Int) := by omega
  go_enter Tryz.func35, Tryz.ntmps35
  go_wp2
  go_loopw [7, 11] (fun u i wr => ∃ j : Nat, j ≤ n ∧ i = .int .i64 j ∧ Ext w wr ∧ wr.ownsRow w.heap.size 3 1 u j (intVs ((List.range j).map x))) (fun _ i _ => n - (intOf i).toNat)
  case atStart => exact ⟨0, Nat.zero_le _, rfl, Ext.refl _, World.ownsRow_nil _ _ _ _⟩
  case round =>
    obtain ⟨j, hj, rfl, hE, hO⟩ := hrel
    have HE := Lib.hid hE
    have HO := Lib.hid hO
    clear hE hO
    by_cases hlt : j < n
    · have hlt' : (j : Int) < (n : Int) := by omega
      have HC := Lib.hid (HV.out j hlt wr HE.out)
      have HPN := Lib.hid (show (List.range (j + 1)).map x = (List.range j).map x ++ [x j] from by rw [List.range_succ, List.map_append]; rfl)
      obtain ⟨a, ha⟩ : ∃ a, a = x j := ⟨_, rfl⟩
      rw [← ha] at HC HPN
      clear ha
      go_wp2_with (first
        | (go_at_call 37; refine HC.out.mono ?_; rintro e w2 ⟨rfl, hE2⟩)
        | (at_builtin; refine wpList_append_lies _ rfl (.tmp 14) (.tmp 19) 23 rfl w.heap.size 3 i0 (.int .i64 0) 1 8 Tryz.underlying23 hi hz0 hz1 hz2 rfl (by decide) _ j _ rfl (ownsRow_ext HO.out (hE2.alloc _)) ⟨w2.heap.size, 0, none⟩ 1 1 [.int .i64 a] rfl rfl (hnewsE (Ext.refl _) rfl) (one_int _) (by decide) ?c3 ?c4 ?c5 (w2.heap.size + 1) (size_alloc _ _) ?_))
      case c3 => unfold maxLen; omega
      case c4 => omega
      case c5 => have := HE.out.size; have := hE2.size; first | omega | (rw [size_alloc]; omega)
      intro g4 cap4 w4 hown4 hgr4 hat4 hlt4
      have hE4 : Ext w w4 := Below.grown (HE.out.trans (hE2.alloc _)) hgr4 (HE.out.trans (hE2.alloc _)).size (fun i hi => (HO.out.lt i hi).1)
      have HO4 := Lib.hid hown4
      have HE4 := Lib.hid hE4
      clear hown4 hgr4 hat4 hlt4 hE4 hE2
      go_wp2
      go_roundw
      case rel => exact ⟨j + 1, by omega, by simp, HE4.out, by rw [HPN.out, intVs_snoc]; exact HO4.out⟩
      case measure => simp [intOf]; omega
    · obtain rfl : j = n := by omega
      have hge : ¬(j : Int) < (j : Int) := by omega
      obtain ⟨g, cg, rfl, -⟩ := ownsRow_at HO.out 0 (by omega)
      have HSO := Lib.hid (Sort_i w.heap.size g j cg ((List.range j).map x) (by simp) (by omega) wr HO.out)
      have hgB := (HO.out.lt g rfl).1
      have HGB := Lib.hid hgB
      clear hgB
      go_upto_region 8 with (go_at_call 56; refine HSO.out.mono ?_; rintro e w2 ⟨rfl, l', hp, hs, hU, hO2⟩)
      have hll : l'.length = j := by rw [hp.length_eq]; simp
      obtain ⟨m, hm⟩ : ∃ m, m = j - k := ⟨_, rfl⟩
      have hml : m < l'.length := by omega
      obtain ⟨hc, -⟩ := ownsRow_cell hO2 (i := m) hml
      have hcs := HCS.out l' hs hp (by omega)
      have e : l'[j - k]'(by omega) = l'[m] := by congr 1; omega
      rw [e] at hcs
      rw [hcs] at hc
      have hw : IntKind.i64.wrap ((j : Int) - (k : Int)) = (m : Int) := by rw [IntKind.wrap_i64]; omega
      have hm0 : (m : Int) < (j : Int) := by omega
      have HEE := Lib.hid (HE.out.ups hU HGB.out)
      clear hp hs hU hO2 hll hcs e hm hml HSO
      go_wp2
      go_ret
      exact RetE.fin HEE.out rfl

theorem cutEnd06 {w W : World} {s : Nat} {a : Act} {lo hi z lo' hi' z' : Int} {x y : Value} {t : TypeId} (hk : lo' = lo ∧ hi' = hi ∧ z' = z) (hE : Ext w W)
    (hm : W.heap[s]? = some (.cells #[x, y] t)) (hs : w.heap.size ≤ s) (ha : a.tmps[4]? = some (.pointer (some ⟨s, 0, none⟩))) (hb : a.tmps[5]? = some (.int .i64 z)) (hd : a.defers = []) :
    bodyPost Tryz.prog Tryz.f10 (RetSp lo' hi' z' w) .ret a ((W.setCell ⟨s, 0, none⟩ (.int .i64 lo)).setCell ⟨s, 1, none⟩ (.int .i64 hi)) := by
  have h := heap_pair (y0 := .int .i64 lo) (y1 := .int .i64 hi) hm
  have c0 := cell_of_heap h 0
  have c1 := cell_of_heap h 1
  simp at c0 c1
  refine bodyPost_ret (v := .tuple #[.agg #[.int .i64 lo, .int .i64 hi], .int .i64 z]) ?_ hd ⟨by rw [hk.1, hk.2.1, hk.2.2], Ext.setCell (Ext.setCell hE (p := ⟨s, 0, none⟩) hs _) (p := ⟨s, 1, none⟩) hs _⟩
  cases a with
  | mk tm df =>
    simp only at ha hb
    simp [results, Tryz.results10, go_sem, ha, hb, c0, c1]

noncomputable def cutLoA (C : Ch) (n : Int) : Int := okN (errF C n) (cutN (tabC C).length (loT (tabC C)) n)
noncomputable def cutHiA (C : Ch) (n : Int) : Int := okN (errF C n) (cutN (tabC C).length (hiT (tabC C)) n)
set_option maxRecDepth 20000 in
set_option maxHeartbeats 3200000 in
theorem Cut06 (C : Ch) (n : Int) (v : Value) (w : World) (hv : ChV w v C) (hs : ChSm C) (hT : TabW w) (hwf : (Lit.int .i64 n).wf = true) :
    Calls Tryz.prog 10 #[v, .int .i64 n] w (RetSp (cutLoA C n) (cutHiA C n) (errF C n) w) := by
  have HV := Lib.hid hv
  have HS := Lib.hid hs
  have HT := Lib.hid hT
  obtain ⟨p, c, q, d, rfl, hp, hq⟩ := hv
  clear hp hq hT hs
  go_enter Tryz.func10, Tryz.ntmps10
  go_upto_region 1 with (fail)
  obtain ⟨s0, hs0⟩ : ∃ s0, s0 = w.heap.size := ⟨_, rfl⟩
  obtain ⟨W, hW⟩ : ∃ W, W = (w.alloc (.cells #[.slice p C.meters.length c, .slice q C.extra.length d, .int .i64 C.frm, .int .i64 C.tto] 25)).alloc (.cells #[.int .i64 0, .int .i64 0] 38) := ⟨_, rfl⟩
  have m0 : W.heap[s0]? = some (.cells #[.slice p C.meters.length c, .slice q C.extra.length d, .int .i64 C.frm, .int .i64 C.tto] 25) := by rw [hs0, hW, Below.heap_alloc _ _ _ (by rw [size_alloc]; omega)]; exact heap_new _ _
  have m1 : W.heap[s0 + 1]? = some (.cells #[.int .i64 0, .int .i64 0] 38) := by rw [hs0, hW]; exact heap_new2 _ _ _
  have HM1 := Lib.hid m1
  have HSZ := Lib.hid (show w.heap.size ≤ s0 + 1 from by omega)
  have hE : Ext w W := by rw [hW]; exact Ext.alloc (Ext.alloc (Ext.refl _) _) _
  rw [← hs0, ← hW]
  have HKC := Lib.hid (fun y (h : Ext W y) => (⟨h.cell (cell_of_heap m0 0), h.cell (cell_of_heap m0 1), h.cell (cell_of_heap m0 2), h.cell (cell_of_heap m0 3)⟩ :
    y.cell? ⟨s0, 0, none⟩ = some (.slice p C.meters.length c) ∧ y.cell? ⟨s0, 1, none⟩ = some (.slice q C.extra.length d) ∧ y.cell? ⟨s0, 2, none⟩ = some (.int .i64 C.frm) ∧ y.cell? ⟨s0, 3, none⟩ = some (.int .i64 C.tto)))
  have HE := Lib.hid hE
  have HVW := Lib.hid (fun y (h : Ext W y) => HV.out.ext (HE.out.trans h))
  obtain ⟨b, hb⟩ : ∃ b, b = isFB C n := ⟨_, rfl⟩
  have HIS := Lib.hid (fun y (h : Ext W y) => (show Calls Tryz.prog 34 #[.agg #[.slice p C.meters.length c, .slice q C.extra.length d, .int .i64 C.frm, .int .i64 C.tto], .int .i64 n] y (RetE (.bool b) y) from by rw [hb]; exact isFirst06 C n _ y (HVW.out y h) hwf (by have := HS.out.nm; omega)))
  have HB := Lib.hid hb
  clear hb hwf
  clear hW m0 m1 hE hs0
  obtain ⟨T, hTT⟩ : ∃ T, T = askT C b := ⟨_, rfl⟩
  obtain ⟨z, hz⟩ : ∃ z, z = errC C b := ⟨_, rfl⟩
  have HAK := Lib.hid (fun y (h : Ext W y) => (show Calls Tryz.prog 31 #[.agg #[.slice p C.meters.length c, .slice q C.extra.length d, .int .i64 C.frm, .int .i64 C.tto], .bool b] y (RetTb T z y) from by rw [hTT, hz]; exact ask06 C b _ y (HV.out.ext (HE.out.trans h)) HS.out (HT.out.ext (HE.out.trans h))))
  have HTZ := Lib.hid (⟨hTT, hz⟩ : T = askT C b ∧ z = errC C b)
  clear hTT hz
  refine wp_region_facts 9 [[], [], [], [1, 2], [0, 3], [4], [5], [5], [6]] [8, 7] Ext (FL [Is (.agg #[.slice p C.meters.length c, .slice q C.extra.length d, .int .i64 C.frm, .int .i64 C.tto]), Is (.agg #[.slice p C.meters.length c, .slice q C.extra.length d, .int .i64 C.frm, .int .i64 C.tto]), Is (.int .i64 n), Is (.bool b), TabF T z W.heap.size, TabF T z W.heap.size, RowF T W.heap.size, Is (.int .i64 z), RowF T W.heap.size]) (by kernel_rfl) (by kernel_rfl) Ext.refl (fun _ _ _ => Ext.trans) (fun _ _ => Ext.size) (FL.mono ⟨Is.mono, Is.mono, Is.mono, Is.mono, TabF.mono, TabF.mono, RowF.mono, Is.mono, RowF.mono, trivial⟩) ⟨?_, ?_, ?_, ?_, ?_, ?_, ?_, ?_, ?_, trivial⟩ ?_
  · refine opF_step ?_
    intro ys l0 h0 w' hr hf K hK
    clear hf
    obtain ⟨j0, j1, j2, j3⟩ := HKC.out w' ((Ext.refl W).drew.trans hr)
    simp only [fill, Act.put, dstO, List.take_succ_cons, List.take_zero, List.setIfInBounds_toArray, List.set_cons_zero, List.set_cons_succ, List.getElem?_cons_zero, Nat.zero_add, Nat.reduceAdd] at hK ⊢
    refine OpB.mk' ?_
    go_simp
    exact hK.out _ _ rfl (Ext.refl _)
  · refine opF_step ?_
    intro ys l0 h0 w' hr hf K hK
    clear hf
    obtain ⟨j0, j1, j2, j3⟩ := HKC.out w' ((Ext.refl W).drew.trans hr)
    simp only [fill, Act.put, dstO, List.take_succ_cons, List.take_zero, List.setIfInBounds_toArray, List.set_cons_zero, List.set_cons_succ, List.getElem?_cons_zero, List.getElem?_cons_succ, Nat.zero_add, Nat.reduceAdd] at hK ⊢
    refine OpB.mk' ?_
    go_simp
    exact hK.out _ _ rfl (Ext.refl _)
  · refine opF_step ?_
    intro ys l0 h0 w' hr hf K hK
    clear hf
    simp only [fill, Act.put, dstO, List.take_succ_cons, List.take_zero, List.setIfInBounds_toArray, List.set_cons_zero, List.set_cons_succ, List.getElem?_cons_zero, List.getElem?_cons_succ, Nat.zero_add, Nat.reduceAdd] at hK ⊢
    refine OpB.mk' ?_
    go_simp
    exact hK.out _ _ rfl (Ext.refl _)
  · refine opF_step ?_
    intro ys l0 h0 w' hr hf K hK
    obtain ⟨f0, f1, -⟩ := hf
    have e0 : ys 1 = _ := f0
    have e1 : ys 2 = _ := f1
    simp only [fill, Act.put, dstO, List.take_succ_cons, List.take_zero, List.setIfInBounds_toArray, List.set_cons_zero, List.set_cons_succ, List.getElem?_cons_zero, List.getElem?_cons_succ, Nat.zero_add, Nat.reduceAdd] at hK ⊢
    simp only [e0, e1] at hK ⊢
    clear e0 e1 f0 f1
    refine OpB.mk' ?_
    go_simp
    refine (HIS.out w' ((Ext.refl W).drew.trans hr)).mono ?_
    rintro e w2 ⟨rfl, hE2⟩
    exact hK.out _ _ rfl hE2
  · refine opF_step ?_
    intro ys l0 h0 w' hr hf K hK
    obtain ⟨f0, f1, -⟩ := hf
    have e0 : ys 0 = _ := f0
    have e1 : ys 3 = _ := f1
    simp only [fill, Act.put, dstO, List.take_succ_cons, List.take_zero, List.setIfInBounds_toArray, List.set_cons_zero, List.set_cons_succ, List.getElem?_cons_zero, List.getElem?_cons_succ, Nat.zero_add, Nat.reduceAdd] at hK ⊢
    simp only [e0, e1] at hK ⊢
    clear e0 e1 f0 f1
    refine OpB.mk' ?_
    go_simp
    refine (HAK.out w' ((Ext.refl W).drew.trans hr)).mono ?_
    rintro e w2 ⟨u, vs, rfl, hR, hE2, hcp⟩
    exact hK.out _ _ ⟨u, vs, rfl, hR.base (Ext.size ((Ext.refl W).drew.trans hr)), hcp⟩ hE2
  · refine opF_step ?_
    intro ys l0 h0 w' hr hf K hK
    obtain ⟨f0, -⟩ := hf
    obtain ⟨u, vs, e0, hR, hcp⟩ := f0
    simp only [fill, Act.put, dstO, List.take_succ_cons, List.take_zero, List.setIfInBounds_toArray, List.set_cons_zero, List.set_cons_succ, List.getElem?_cons_zero, List.getElem?_cons_succ, Nat.zero_add, Nat.reduceAdd] at hK ⊢
    simp only [e0] at hK ⊢
    clear e0
    refine OpB.mk' ?_
    go_simp
    exact hK.out _ _ ⟨u, vs, rfl, hR, hcp⟩ (Ext.refl _)
  · refine opF_step ?_
    intro ys l0 h0 w' hr hf K hK
    obtain ⟨f0, -⟩ := hf
    obtain ⟨u, vs, e0, hR, hcp⟩ := f0
    simp only [fill, Act.put, dstO, List.take_succ_cons, List.take_zero, List.setIfInBounds_toArray, List.set_cons_zero, List.set_cons_succ, List.getElem?_cons_zero, List.getElem?_cons_succ, Nat.zero_add, Nat.reduceAdd] at hK ⊢
    simp only [e0] at hK ⊢
    clear e0
    refine OpB.mk' ?_
    go_simp
    exact hK.out _ _ ⟨vs, hR, hcp⟩ (Ext.refl _)
  · refine opF_step ?_
    intro ys l0 h0 w' hr hf K hK
    obtain ⟨f0, -⟩ := hf
    obtain ⟨u, vs, e0, hR, hcp⟩ := f0
    simp only [fill, Act.put, dstO, List.take_succ_cons, List.take_zero, List.setIfInBounds_toArray, List.set_cons_zero, List.set_cons_succ, List.getElem?_cons_zero, List.getElem?_cons_succ, Nat.zero_add, Nat.reduceAdd] at hK ⊢
    simp only [e0] at hK ⊢
    clear e0
    refine OpB.mk' ?_
    go_simp
    exact hK.out _ _ rfl (Ext.refl _)
  · refine opF_step ?_
    intro ys l0 h0 w' hr hf K hK
    obtain ⟨f0, -⟩ := hf
    simp only [fill, Act.put, dstO, List.take_succ_cons, List.take_zero, List.setIfInBounds_toArray, List.set_cons_zero, List.set_cons_succ, List.getElem?_cons_zero, List.getElem?_cons_succ, Nat.zero_add, Nat.reduceAdd] at hK ⊢
    refine OpB.mk' ?_
    go_simp
    exact hK.out _ _ f0 (Ext.refl _)
  intro ys l0 h0 w2 hr hf hsp
  obtain ⟨f8, f7, -⟩ := hf
  obtain ⟨vs, hR, hcp⟩ := f8
  have e7 : ys 7 = _ := f7
  simp only [fill, Act.put, List.take_succ_cons, List.take_zero, List.setIfInBounds_toArray, List.set_cons_zero, List.set_cons_succ, Nat.zero_add, Nat.reduceAdd, List.drop_succ_cons, List.drop_zero]
  rw [e7]
  clear e7 f7
  generalize ys 8 = u at hR ⊢
  clear hsp
  have hEW : Ext W w2 := (Ext.refl W).drew.trans hr
  have HR := Lib.hid hR
  have HCP := Lib.hid hcp
  have HEW := Lib.hid hEW
  obtain ⟨qt, ct, rfl, hLT⟩ := hR.lists
  have HLT := Lib.hid hLT
  clear hr hEW hR hcp hLT HAK
  by_cases hz0 : z = 0
  case neg =>
    have hg : (z == 0) = false := by simpa using hz0
    have HZ := Lib.hid (show errF C n = z from by unfold errF; rw [← HB.out, HTZ.out.2])
    have HNA := Lib.hid (show cutLoA C n = 0 ∧ cutHiA C n = 0 from ⟨by unfold cutLoA; rw [HZ.out, okN_ne hz0], by unfold cutHiA; rw [HZ.out, okN_ne hz0]⟩)
    clear hz0
    have hm := heap_ext3 HM1.out HEW.out
    have d0 := cell_of_heap hm 0
    have d1 := cell_of_heap hm 1
    have g0 := cell_frozen hm 0
    have g1 := cell_frozen hm 1
    have HMW := Lib.hid hm
    clear hm
    go_wp2
    refine cutEnd06 ⟨HNA.out.1, HNA.out.2, HZ.out⟩ (HE.out.trans HEW.out) HMW.out HSZ.out ?_ ?_ ?_ <;> rfl
  subst hz0
  obtain ⟨hC, hbt, hso⟩ := errC_0 HTZ.out.2.symm
  have hTC : T = tabC C := by rw [HTZ.out.1, askT_0 HTZ.out.2.symm]
  have htl : T.length = C.meters.length := by rw [hTC, tabC_len]
  obtain ⟨h0, h1⟩ := isFB_iff.1 (HB.out.symm.trans hbt)
  obtain ⟨i, rfl⟩ : ∃ i : Nat, n = i := ⟨n.toNat, by omega⟩
  have hG : TabG T := by rw [hTC]; exact tabC_ok hC hso
  have HZ := Lib.hid (show errF C i = 0 from by unfold errF; rw [← HB.out, ← HTZ.out.2])
  have HNA := Lib.hid (show cutLoA C i = cutN T.length (loT T) i ∧ cutHiA C i = cutN T.length (hiT T) i from ⟨by unfold cutLoA; rw [HZ.out, okN_0 rfl, hTC], by unfold cutHiA; rw [HZ.out, okN_0 rfl, hTC]⟩)
  have HL1 := Lib.hid (fun y (h : Ext w2 y) => nthLo06 T hG i (by omega) (by omega) qt ct y (HLT.out.ext h))
  have HL2 := Lib.hid (fun y (h : Ext w2 y) => nthHi06 T hG i (by omega) (by omega) qt ct y (HLT.out.ext h))
  obtain ⟨x1, hx1⟩ : ∃ x, x = cutN T.length (loT T) i := ⟨_, rfl⟩
  obtain ⟨x2, hx2⟩ : ∃ x, x = cutN T.length (hiT T) i := ⟨_, rfl⟩
  rw [← hx1] at HL1 HNA
  rw [← hx2] at HL2 HNA
  clear hC hbt hso hTC htl h0 h1 hG hx1 hx2
  go_wp2_with (first
    | (go_at_call 35; refine (HL2.out _ hE3).mono ?_; rintro e w4 ⟨rfl, hE4⟩; have hm := heap_ext3 HM1.out (HEW.out.trans (hE3.trans hE4)); have d0 := cell_of_heap hm 0; have d1 := cell_of_heap hm 1; have g0 := cell_frozen hm 0; have g1 := cell_frozen hm 1)
    | (go_at_call 35; refine (HL1.out _ (Ext.refl _)).mono ?_; rintro e w3 ⟨rfl, hE3⟩))
  refine cutEnd06 ⟨HNA.out.1, HNA.out.2, HZ.out⟩ (HE.out.trans (HEW.out.trans (hE3.trans hE4))) hm HSZ.out ?_ ?_ ?_ <;> rfl
end Go.Proofs.YtppncdbhebgcaaaGreatDoor
namespace Go.Proofs.YtppncdbhebgcaaaGreatDoor
open Go.RowKit

end Go.Proofs.YtppncdbhebgcaaaGreatDoor
namespace Go.Proofs.YtppncdbhebgcaaaGreatDoor
open Go.RowKit

theorem IntsNe.ups {g : Nat} {w w' : World} {q : Option Addr} {l : List Int} (h : IntsNe (some g) w q l) (hU : Ups g w w') : IntsNe (some g) w' q l := by
  intro j hj
  obtain ⟨b, o, hq, hn, hc⟩ := h j hj
  exact ⟨b, o, hq, hn, hU.cell hc (fun e => hn (by rw [e]))⟩
/-- a table whose rows lie in other blocks than its own -/
def PinAt (w : World) (B gt n cap : Nat) (L : Tab) : Prop :=
  L.length = n ∧ ∃ vs, w.ownsRow B 23 1 (.slice (some ⟨gt, 0, none⟩) n cap) n vs ∧ ∀ i (h : i < L.length), ∃ p c, L[i].length ≤ c ∧ vs[i]? = some (.slice p L[i].length c) ∧ IntsNe (some gt) w p L[i]
section
variable {w w' : World} {B gt n cap : Nat} {L : Tab}
theorem PinAt.ext (h : PinAt w B gt n cap L) (hE : Ext w w') : PinAt w' B gt n cap L := by
  obtain ⟨h1, vs, h2, h3⟩ := h
  exact ⟨h1, vs, ownsRow_ext h2 hE, fun i hi => by obtain ⟨p, c, k1, k2, k3⟩ := h3 i hi; exact ⟨p, c, k1, k2, k3.ext hE⟩⟩
theorem PinAt.row (h : PinAt w B gt n cap L) {i : Nat} (hi : i < n) : ∃ p c, (rowT L i).length ≤ c ∧ w.cell? ⟨gt, i, none⟩ = some (.slice p (rowT L i).length c) ∧ IntsNe (some gt) w p (rowT L i) ∧ w.frozen? ⟨gt, i, none⟩ = false := by
  obtain ⟨h1, vs, h2, h3⟩ := h
  obtain ⟨p, c, k1, k2, k3⟩ := h3 i (by omega)
  obtain ⟨b, cc, he, hc⟩ := ownsRow_at h2 i hi
  cases he
  rw [k2] at hc
  rw [rowT_get (by omega)]
  refine ⟨p, c, k1, hc, k3, ?_⟩
  rcases h2.2 with ⟨hv, -⟩ | ⟨g', cap, cur, hv, -, hg, -⟩
  · cases hv
  · cases hv; exact cell_frozen hg i
theorem PinAt.lists (h : PinAt w B gt n cap L) : ListsAt w (some ⟨gt, 0, none⟩) L := by
  intro i hi
  obtain ⟨p, c, -, hc, hn, -⟩ := h.row (i := i) (by have := h.1; omega)
  rw [rowT_get hi] at hc hn
  exact ⟨gt, 0, _, rfl, by rw [Nat.zero_add]; exact hc, p, c, rfl, hn.ints⟩
theorem PinAt.set (h : PinAt w B gt n cap L) {i : Nat} (hi : i < n) {p : Option Addr} {r : List Int} {c : Nat} (hn : IntsNe (some gt) w p r) (hc : r.length ≤ c) : PinAt (w.setCell ⟨gt, i, none⟩ (.slice p r.length c)) B gt n cap (L.set i r) := by
  obtain ⟨h1, vs, h2, h3⟩ := h
  have hU : Ups gt w (w.setCell ⟨gt, i, none⟩ (.slice p r.length c)) := (Ups.refl _ _).setCell _ _
  refine ⟨by rw [List.length_set]; exact h1, _, ownsRow_setV h2, fun j hj => ?_⟩
  rw [List.length_set] at hj
  by_cases e : i = j
  · subst e
    have hvl : i < vs.length := by have := h2.1; omega
    rw [List.getElem_set_self]
    exact ⟨p, c, hc, List.getElem?_set_self hvl, hn.ups hU⟩
  · obtain ⟨p', c', k1, k2, k3⟩ := h3 j hj
    rw [List.getElem_set_ne e]
    exact ⟨p', c', k1, by rw [List.getElem?_set_ne e]; exact k2, k3.ups hU⟩
end
end Go.Proofs.YtppncdbhebgcaaaGreatDoor
namespace Go.Proofs.YtppncdbhebgcaaaGreatDoor
open Go.RowKit

theorem lo_bd {T : Tab} (hG : TabG T) {j : Nat} (hj : j < T.length) : 0 ≤ loT T j ∧ loT T j ≤ 2499 := by
  have h1 := lo_mem hG.ok hj
  rw [rowT_get hj] at h1
  exact hG.bd _ (List.getElem_mem hj) _ h1
theorem hi_bd {T : Tab} (hG : TabG T) {j : Nat} (hj : j < T.length) : 0 ≤ hiT T j ∧ hiT T j ≤ 2499 := by
  have h1 := hi_mem hG.ok hj
  rw [rowT_get hj] at h1
  exact hG.bd _ (List.getElem_mem hj) _ h1

end Go.Proofs.YtppncdbhebgcaaaGreatDoor
namespace Go.Proofs.YtppncdbhebgcaaaGreatDoor
open Go.RowKit Go.Maps

/-- a map of what is gone -/
def GoneM (w : World) (b n : Nat) (S : Nat → Bool) (cnt : Nat) : Prop :=
  ∃ D : DataW Unit, w.ownsMap Tryz.prog 3 (plainElem Tryz.prog 3) b n D ∧ Tidy D ∧ Go.Maps.size D = cnt ∧ (∀ i : Nat, D.atKey (.int .i64 i) (.lit (.int .i64 0)) = .lit (.int .i64 (if S i = true then 1 else 0))) ∧ ∀ i : Nat, has D (.int .i64 i) = S i
theorem GoneM.ext {w w' : World} {b n : Nat} {S : Nat → Bool} {cnt : Nat} (h : GoneM w b n S cnt) (hE : Ext w w') : GoneM w' b n S cnt := by
  obtain ⟨D, ⟨es, clock, hb, hF⟩, h2⟩ := h
  exact ⟨D, ⟨es, clock, heap_ext3 hb hE, hF⟩, h2⟩
theorem GoneM.mono {w : World} {b n n' : Nat} {S : Nat → Bool} {cnt : Nat} (h : GoneM w b n S cnt) (hn : n ≤ n') : GoneM w b n' S cnt := by
  obtain ⟨D, h1, h2⟩ := h
  exact ⟨D, h1.mono hn, h2⟩
theorem GoneM.lt {w : World} {b n : Nat} {S : Nat → Bool} {cnt : Nat} (h : GoneM w b n S cnt) : b < w.heap.size := by
  obtain ⟨D, h1, -⟩ := h
  exact h1.lt
theorem GoneM.made (w : World) : GoneM (w.alloc (.map #[] 0)) w.heap.size 0 (fun _ => false) 0 :=
  ⟨.map [], World.ownsMap_made w Tryz.prog 3 _, tidy_empty, rfl, fun _ => rfl, fun _ => rfl⟩
end Go.Proofs.YtppncdbhebgcaaaGreatDoor
