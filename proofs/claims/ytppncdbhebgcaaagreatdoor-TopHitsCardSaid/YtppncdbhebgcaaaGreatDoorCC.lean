
/- A few numbers sorted: insertion sort, plain law and walk; slices.Sort. Charts: the walks of nth and Cut. Charts: the walks of titles, Top and May. Charts: the walks of open and Next. Charts: the walk of Needs. Charts: how many orders there are: the walks of orders and Orders. -/
import Derived.Test.YtppncdbhebgcaaaGreatDoorCB
import Derived.Test.YtppncdbhebgcaaaGreatDoorQ9b
import Derived.Maps.OwnSet
namespace Go.Proofs.YtppncdbhebgcaaaGreatDoor
open Go.RowKit

def swpL (l : List Int) (i j : Nat) : List Int := (l.set i (l.getD j 0)).set j (l.getD i 0)
theorem swpL_len (l : List Int) (i j : Nat) : (swpL l i j).length = l.length := by simp [swpL]
theorem getD_set (l : List Int) (i : Nat) (v : Int) (k : Nat) (h : i < l.length) : (l.set i v).getD k 0 = if i = k then v else l.getD k 0 := by
  rw [List.getD_eq_getElem?_getD, List.getElem?_set]
  by_cases e : i = k
  · rw [if_pos e, if_pos e, if_pos h]; rfl
  · rw [if_neg e, if_neg e, List.getD_eq_getElem?_getD]
theorem swpL_get {l : List Int} {i j : Nat} (hi : i < l.length) (hj : j < l.length) (k : Nat) : (swpL l i j).getD k 0 = if j = k then l.getD i 0 else if i = k then l.getD j 0 else l.getD k 0 := by
  unfold swpL
  rw [getD_set _ _ _ _ (by rw [List.length_set]; exact hj), getD_set _ _ _ _ hi]
theorem swpL_perm {l : List Int} {i j : Nat} (hi : i < l.length) (hj : j < l.length) : (swpL l i j).Perm l := by
  unfold swpL
  rw [List.getD_eq_getElem?_getD, List.getD_eq_getElem?_getD, List.getElem?_eq_getElem hi, List.getElem?_eq_getElem hj]
  exact List.set_set_perm hi hj
/-- the first i are sorted -/
def SrtTo (R : Int → Int → Prop) (l : List Int) (i : Nat) : Prop := ∀ a b, a < b → b < i → R (l.getD a 0) (l.getD b 0)
/-- the first ones are sorted but for the one at j, which is still on its way -/
structure InsI (R : Int → Int → Prop) (l : List Int) (i j : Nat) : Prop where
  ji : j ≤ i
  il : i < l.length
  pr : ∀ a b, a < b → b ≤ i → b ≠ j → R (l.getD a 0) (l.getD b 0)
section
variable {R : Int → Int → Prop} {l : List Int} {i j : Nat}
theorem InsI.start (h : SrtTo R l i) (hi : i < l.length) : InsI R l i i := ⟨Nat.le_refl _, hi, fun a b hab hb hne => h a b hab (by omega)⟩
theorem InsI.stop (hT : ∀ x y z, R x y → R y z → R x z) (h : InsI R l i j) (hs : j = 0 ∨ R (l.getD (j - 1) 0) (l.getD j 0)) : SrtTo R l (i + 1) := by
  intro a b hab hb
  by_cases e : b = j
  · subst e
    rcases hs with h0 | h1
    · omega
    · by_cases c : a = b - 1
      · rw [c]; exact h1
      · exact hT _ _ _ (h.pr a (b - 1) (by omega) (by omega) (by omega)) h1
  · exact h.pr a b hab (by omega) e
theorem InsI.step (h : InsI R l i (j + 1)) (hr : R (l.getD (j + 1) 0) (l.getD j 0)) : InsI R (swpL l (j + 1) j) i j := by
  have hi := h.il
  have hji := h.ji
  refine ⟨by omega, by rw [swpL_len]; exact hi, fun a b hab hb hne => ?_⟩
  rw [swpL_get (by omega) (by omega), swpL_get (by omega) (by omega)]
  by_cases b1 : j + 1 = b
  · subst b1
    rw [if_neg (by omega : ¬j = j + 1), if_pos rfl]
    by_cases a1 : j = a
    · rw [if_pos a1]; exact hr
    · rw [if_neg a1, if_neg (by omega)]
      exact h.pr a j (by omega) (by omega) (by omega)
  · have hb' : ¬j = b := fun e => hne e.symm
    rw [if_neg hb', if_neg b1]
    by_cases a1 : j = a
    · rw [if_pos a1]; exact h.pr (j + 1) b (by omega) hb (fun e => b1 e.symm)
    · rw [if_neg a1]
      by_cases a2 : j + 1 = a
      · rw [if_pos a2]; exact h.pr j b (by omega) hb (fun e => b1 e.symm)
      · rw [if_neg a2]; exact h.pr a b hab hb (fun e => b1 e.symm)
theorem SrtTo.pairwise (h : SrtTo R l l.length) : l.Pairwise R := by
  rw [List.pairwise_iff_getElem]
  intro a b ha hb hab
  have := h a b hab hb
  rwa [List.getD_eq_getElem?_getD, List.getD_eq_getElem?_getD, List.getElem?_eq_getElem ha, List.getElem?_eq_getElem hb] at this
end
theorem getI_at {l : List Int} {i : Nat} (h : i < l.length) : l.getD i 0 = l[i] := by
  rw [List.getD_eq_getElem?_getD, List.getElem?_eq_getElem h]; rfl
set_option maxRecDepth 20000 in
theorem isNaN_i (x : Int) (w : World) : Calls Tryz.prog 144 #[.int .i64 x] w (RetE (.bool false) w) := by
  go_enter Tryz.func144, Tryz.ntmps144
  go_wp2
  go_ret
  exact RetE.fin (by repeat (first | exact Ext.refl _ | assumption | refine Ext.drewN ?_ _ | refine Ext.drew ?_ | refine Ext.alloc ?_ _)) rfl
set_option maxRecDepth 20000 in
theorem less_i (x y : Int) (w : World) : Calls Tryz.prog 117 #[.int .i64 x, .int .i64 y] w (RetE (.bool (decide (x < y))) w) := by
  have HN := Lib.hid (fun z u => isNaN_i z u)
  go_enter Tryz.func117, Tryz.ntmps117
  by_cases h : x < y
  · have HB := Lib.hid (decide_eq_true h)
    go_wp2_with (go_at_call 144; refine (HN.out _ _).mono ?_; rintro e w2 ⟨rfl, hE2⟩)
    go_ret
    exact RetE.fin hE2 (by rw [HB.out]; rfl)
  · have HB := Lib.hid (decide_eq_false h)
    go_wp2_with (go_at_call 144; refine (HN.out _ _).mono ?_; rintro e w2 ⟨rfl, hE2⟩)
    go_ret
    exact RetE.fin hE2 (by rw [HB.out]; rfl)
/-- a slice of ints of one's own, sorted in its place -/
def RetS (B g n cap : Nat) (l : List Int) (w : World) (e : Ending) (w' : World) : Prop :=
  e = .returned (.tuple #[]) ∧ ∃ l', l'.Perm l ∧ l'.Pairwise (· ≤ ·) ∧ Ups g w w' ∧ w'.ownsRow B 3 1 (.slice (some ⟨g, 0, none⟩) n cap) n (intVs l')

set_option maxRecDepth 20000 in
set_option maxHeartbeats 3200000 in
theorem insertion_i (B g n cap : Nat) (l : List Int) (hl : l.length = n) (hn : n ≤ 1000) (w : World) (hO : w.ownsRow B 3 1 (.slice (some ⟨g, 0, none⟩) n cap) n (intVs l)) :
    Calls Tryz.prog 111 #[.slice (some ⟨g, 0, none⟩) n cap, .int .i64 0, .int .i64 n] w (RetS B g n cap l w) := by
  have HO := Lib.hid hO
  have HL : EqS l.length n := ⟨hl⟩
  clear hO hl
  go_enter Tryz.func111, Tryz.ntmps111
  go_wp2
  go_loopw [6] (fun a wr => ∃ (i : Nat) (m : List Int), a = .int .i64 i ∧ 1 ≤ i ∧ i ≤ n + 1 ∧ m.length = n ∧ m.Perm l ∧ SrtTo (· ≤ ·) m (min i n) ∧ Ups g w wr ∧ wr.ownsRow B 3 1 (.slice (some ⟨g, 0, none⟩) n cap) n (intVs m)) (fun a _ => n + 1 - (intOf a).toNat)
  case atStart => exact ⟨1, l, rfl, Nat.le_refl _, by omega, HL.out, List.Perm.refl _, fun a b hab hb => by omega, Ups.refl _ _, HO.out⟩
  case round =>
    obtain ⟨i, m, rfl, hi1, hin, hml, hp, hs, hU, hO⟩ := hrel
    by_cases hlt : i < n
    · have hlt' : (i : Int) < (n : Int) := by omega
      have HSI := Lib.hid (InsI.start (R := (· ≤ ·)) (by rw [Nat.min_eq_left (by omega)] at hs; exact hs) (show i < m.length by omega))
      have HM : EqS m.length n := ⟨hml⟩
      have HP := Lib.hid hp
      have HU := Lib.hid hU
      have HO1 := Lib.hid hO
      clear hml hp hs hU hO
      go_wp2
      go_loopw [7] (fun a wr2 => ∃ (j : Nat) (k : List Int), a = .int .i64 j ∧ k.length = n ∧ k.Perm l ∧ InsI (· ≤ ·) k i j ∧ Ups g w wr2 ∧ wr2.ownsRow B 3 1 (.slice (some ⟨g, 0, none⟩) n cap) n (intVs k)) (fun a _ => (intOf a).toNat)
      case atStart => exact ⟨i, m, rfl, HM.out, HP.out, HSI.out, HU.out, HO1.out⟩
      case round =>
        obtain ⟨j, k, rfl, hkl, hp, hI, hU, hO⟩ := hrel
        have hji := hI.ji
        have HKL : EqS k.length n := ⟨hkl⟩
        have HI := Lib.hid hI
        have HP2 := Lib.hid hp
        have HU2 := Lib.hid hU
        have HO2 := Lib.hid hO
        clear hkl hp hI hU
        by_cases hj0 : j = 0
        · subst hj0
          have HST := Lib.hid (InsI.stop (R := (· ≤ ·)) (fun _ _ _ h h2 => Int.le_trans h h2) HI.out (Or.inl rfl))
          obtain ⟨x0, hx0⟩ := ExtW.of (Ext.refl wr)
          clear hO
          conv => arg 5; rw [hx0]
          have HX := Lib.hid hx0
          clear hx0
          go_upto_region 4 with (fail)
          refine wp_region_extW (by kernel_rfl) (by kernel_rfl) ?_
          repeat (go_big_quiet_step (fail))
          refine wpQuiet_nil ?_
          rintro _ ⟨x2, rfl⟩
          have hE2 : Ext wr x2.w := x2.h
          have HE2 := Lib.hid hE2
          clear hE2
          go_wp2
          go_roundw
          case rel => exact ⟨i + 1, k, by simp, by omega, by omega, HKL.out, HP2.out, by rw [Nat.min_eq_left (by omega)]; exact HST.out, HU2.out.trans (Ups.ext HE2.out), ownsRow_ext HO2.out HE2.out⟩
          case measure => simp [intOf]; omega
        · obtain ⟨p, rfl⟩ : ∃ p, j = p + 1 := ⟨j - 1, by omega⟩
          have hj1 : (0 : Int) < (p : Int) + 1 := by omega
          have hpn : p + 1 < k.length := by have := HKL.out; omega
          obtain ⟨c1, z1⟩ := ownsRow_cell hO (i := p + 1) hpn
          obtain ⟨c0, z0⟩ := ownsRow_cell hO (i := p) (by omega)
          rw [← getI_at hpn] at c1
          rw [← getI_at (show p < k.length by omega)] at c0
          have hstep := HI.out.step
          have hstop := InsI.stop (R := (· ≤ ·)) (fun _ _ _ h h' => Int.le_trans h h') HI.out
          rw [show p + 1 - 1 = p from rfl] at hstop
          have hperm := swpL_perm hpn (show p < k.length by omega)
          have hswp : swpL k (p + 1) p = (k.set (p + 1) (k.getD p 0)).set p (k.getD (p + 1) 0) := rfl
          obtain ⟨b, hb⟩ : ∃ b, b = k.getD (p + 1) 0 := ⟨_, rfl⟩
          obtain ⟨a, ha⟩ : ∃ a, a = k.getD p 0 := ⟨_, rfl⟩
          rw [← hb, ← ha] at hstep hstop hswp
          rw [← hb] at c1
          rw [← ha] at c0
          have HST := Lib.hid hstep
          have HSP := Lib.hid hstop
          have HPM := Lib.hid hperm
          have HSW := Lib.hid hswp
          have k1 := ExtW.cell c1
          have k0 := ExtW.cell c0
          have hlt1 : (p : Int) + 1 < (n : Int) := by have := HKL.out; omega
          have hlt0 : (p : Int) < (n : Int) := by omega
          have hw0 : IntKind.i64.wrap (p : Int) = (p : Int) := IntWalk.i64_in _ (by omega)
          have hp0 : (0 : Int) ≤ (p : Int) + 1 := by omega
          have hpt : ((p : Int) + 1).toNat = p + 1 := by omega
          have HLS := Lib.hid (fun x : ExtW wr => ExtW.call (x := x) (less_i b a x.w))
          obtain ⟨x0, hx0⟩ := ExtW.of (Ext.refl wr)
          clear hO hb ha hstep hstop hperm hswp c0 c1 z0 z1 hj0
          conv => arg 5; rw [hx0]
          have HX := Lib.hid hx0
          clear hx0
          by_cases hba : b < a
          · rw [decide_eq_true hba] at HLS
            go_upto_region 4 with (fail)
            refine wp_region_extW (by kernel_rfl) (by kernel_rfl) ?_
            repeat (go_big_quiet_step ((go_at_call 117; exact HLS.out _)))
            refine wpQuiet_nil ?_
            rintro _ ⟨x2, rfl⟩
            obtain ⟨W4, hW4⟩ : ∃ W4, W4 = x2.w := ⟨_, rfl⟩
            have hE4 : Ext wr W4 := by rw [hW4]; exact x2.h
            rw [← hW4]
            have HE4 := Lib.hid hE4
            have HO4 := Lib.hid (ownsRow_ext HO2.out hE4)
            have HKC := Lib.hid (fun y (h : Ext W4 y) => (by
              have h3 := ownsRow_ext HO4.out h
              obtain ⟨c1, z1⟩ := ownsRow_cell h3 (i := p + 1) hpn
              exact ⟨(k1 ⟨y, hE4.trans h⟩), (k0 ⟨y, hE4.trans h⟩), z1, h3⟩ :
              y.cell? ⟨g, p + 1, none⟩ = some (.int .i64 b) ∧ y.cell? ⟨g, p, none⟩ = some (.int .i64 a) ∧ y.frozen? ⟨g, p + 1, none⟩ = false ∧ y.ownsRow B 3 1 (.slice (some ⟨g, 0, none⟩) n cap) n (intVs k)))
            clear hW4 hE4 k0 k1 HLS HX
            go_upto_region 6 with (fail)
            refine wp_region_facts2 16 [[], [], [], [], [3], [], [], [6], [5, 7], [8], [], [], [10, 11], [12], [0, 1], [14, 9]] [2, 4, 13, 15] 15 [9, 13] Ext (Ups g) (FL [Is (.slice (some ⟨g, 0, none⟩) n cap), Is (.int .i64 ((p : Int) + 1)), Is (.slice (some ⟨g, 0, none⟩) n cap), Is (.int .i64 ((p : Int) + 1)), Is (.int .i64 (p : Int)), Is (.slice (some ⟨g, 0, none⟩) n cap), Is (.int .i64 ((p : Int) + 1)), Is (.int .i64 (p : Int)), Is (.pointer (some ⟨g, p, none⟩)), Is (.int .i64 a), Is (.slice (some ⟨g, 0, none⟩) n cap), Is (.int .i64 ((p : Int) + 1)), Is (.pointer (some ⟨g, p + 1, none⟩)), Is (.int .i64 b), Is (.pointer (some ⟨g, p + 1, none⟩)), fun _ _ _ w => w.ownsRow B 3 1 (.slice (some ⟨g, 0, none⟩) n cap) n (intVs (k.set (p + 1) a))]) (by kernel_rfl) (by kernel_rfl) (by kernel_rfl) (fun _ _ => Ups.ext) (fun _ _ _ => Ext.trans) Ext.refl (Ups.refl _) (fun _ _ _ => Ups.trans) (fun _ _ h => h.size) ?_ ?_ ⟨?_, ?_, ?_, ?_, ?_, ?_, ?_, ?_, ?_, ?_, ?_, ?_, ?_, ?_, ?_, ?_, trivial⟩ ?_
            · exact FL.mono ⟨Is.mono, Is.mono, Is.mono, Is.mono, Is.mono, Is.mono, Is.mono, Is.mono, Is.mono, Is.mono, Is.mono, Is.mono, Is.mono, Is.mono, Is.mono, fun _ _ _ _ _ h hb => ownsRow_ext hb h, trivial⟩
            · intro j v s t w w' hj hr
              match j, hj with
              | 0, _ => exact fun h => h
              | 1, _ => exact fun h => h
              | 2, _ => exact fun h => h
              | 3, _ => exact fun h => h
              | 4, _ => exact fun h => h
              | 5, _ => exact fun h => h
              | 6, _ => exact fun h => h
              | 7, _ => exact fun h => h
              | 8, _ => exact fun h => h
              | 9, _ => exact fun h => h
              | 10, _ => exact fun h => h
              | 11, _ => exact fun h => h
              | 12, _ => exact fun h => h
              | 13, _ => exact fun h => h
              | 14, _ => exact fun h => h
              | 15, hj => exact absurd rfl hj
              | n + 16, _ => exact fun h => h
            · refine opF2_step ?_
              intro ys l0 h0 w' hr hs hf K hK
              clear hf
              clear hs
              simp only [fill, Act.put, dstO, List.take_succ_cons, List.take_zero, List.setIfInBounds_toArray, List.set_cons_zero, List.set_cons_succ, List.getElem?_cons_zero, Nat.zero_add, Nat.reduceAdd] at hK ⊢
              refine OpB.mk' ?_
              go_simp
              exact hK.out _ _ rfl (fun h => by cases h) (fun _ => Ext.refl _)
            · refine opF2_step ?_
              intro ys l0 h0 w' hr hs hf K hK
              clear hf
              clear hs
              simp only [fill, Act.put, dstO, List.take_succ_cons, List.take_zero, List.setIfInBounds_toArray, List.set_cons_zero, List.set_cons_succ, List.getElem?_cons_zero, List.getElem?_cons_succ, Nat.zero_add, Nat.reduceAdd] at hK ⊢
              refine OpB.mk' ?_
              go_simp
              exact hK.out _ _ rfl (fun h => by cases h) (fun _ => Ext.refl _)
            · refine opF2_step ?_
              intro ys l0 h0 w' hr hs hf K hK
              clear hf
              clear hs
              simp only [fill, Act.put, dstO, List.take_succ_cons, List.take_zero, List.setIfInBounds_toArray, List.set_cons_zero, List.set_cons_succ, List.getElem?_cons_zero, List.getElem?_cons_succ, Nat.zero_add, Nat.reduceAdd] at hK ⊢
              refine OpB.mk' ?_
              go_simp
              exact hK.out _ _ rfl (fun h => by cases h) (fun _ => Ext.refl _)
            · refine opF2_step ?_
              intro ys l0 h0 w' hr hs hf K hK
              clear hf
              clear hs
              simp only [fill, Act.put, dstO, List.take_succ_cons, List.take_zero, List.setIfInBounds_toArray, List.set_cons_zero, List.set_cons_succ, List.getElem?_cons_zero, List.getElem?_cons_succ, Nat.zero_add, Nat.reduceAdd] at hK ⊢
              refine OpB.mk' ?_
              go_simp
              exact hK.out _ _ rfl (fun h => by cases h) (fun _ => Ext.refl _)
            · refine opF2_step ?_
              intro ys l0 h0 w' hr hs hf K hK
              obtain ⟨f0, -⟩ := hf
              have e0 : ys 3 = _ := f0
              clear hs
              simp only [fill, Act.put, dstO, List.take_succ_cons, List.take_zero, List.setIfInBounds_toArray, List.set_cons_zero, List.set_cons_succ, List.getElem?_cons_zero, List.getElem?_cons_succ, Nat.zero_add, Nat.reduceAdd] at hK ⊢
              simp only [e0] at hK ⊢
              clear e0 f0
              refine OpB.mk' ?_
              go_simp
              exact hK.out _ _ rfl (fun h => by cases h) (fun _ => Ext.refl _)
            · refine opF2_step ?_
              intro ys l0 h0 w' hr hs hf K hK
              clear hf
              clear hs
              simp only [fill, Act.put, dstO, List.take_succ_cons, List.take_zero, List.setIfInBounds_toArray, List.set_cons_zero, List.set_cons_succ, List.getElem?_cons_zero, List.getElem?_cons_succ, Nat.zero_add, Nat.reduceAdd] at hK ⊢
              refine OpB.mk' ?_
              go_simp
              exact hK.out _ _ rfl (fun h => by cases h) (fun _ => Ext.refl _)
            · refine opF2_step ?_
              intro ys l0 h0 w' hr hs hf K hK
              clear hf
              clear hs
              simp only [fill, Act.put, dstO, List.take_succ_cons, List.take_zero, List.setIfInBounds_toArray, List.set_cons_zero, List.set_cons_succ, List.getElem?_cons_zero, List.getElem?_cons_succ, Nat.zero_add, Nat.reduceAdd] at hK ⊢
              refine OpB.mk' ?_
              go_simp
              exact hK.out _ _ rfl (fun h => by cases h) (fun _ => Ext.refl _)
            · refine opF2_step ?_
              intro ys l0 h0 w' hr hs hf K hK
              obtain ⟨f0, -⟩ := hf
              have e0 : ys 6 = _ := f0
              clear hs
              simp only [fill, Act.put, dstO, List.take_succ_cons, List.take_zero, List.setIfInBounds_toArray, List.set_cons_zero, List.set_cons_succ, List.getElem?_cons_zero, List.getElem?_cons_succ, Nat.zero_add, Nat.reduceAdd] at hK ⊢
              simp only [e0] at hK ⊢
              clear e0 f0
              refine OpB.mk' ?_
              go_simp
              exact hK.out _ _ rfl (fun h => by cases h) (fun _ => Ext.refl _)
            · refine opF2_step ?_
              intro ys l0 h0 w' hr hs hf K hK
              obtain ⟨f0, f1, -⟩ := hf
              have e0 : ys 5 = _ := f0
              have e1 : ys 7 = _ := f1
              clear hs
              simp only [fill, Act.put, dstO, List.take_succ_cons, List.take_zero, List.setIfInBounds_toArray, List.set_cons_zero, List.set_cons_succ, List.getElem?_cons_zero, List.getElem?_cons_succ, Nat.zero_add, Nat.reduceAdd] at hK ⊢
              simp only [e0, e1] at hK ⊢
              clear e0 e1 f0 f1
              refine OpB.mk' ?_
              go_simp
              exact hK.out _ _ rfl (fun h => by cases h) (fun _ => Ext.refl _)
            · refine opF2_step ?_
              intro ys l0 h0 w' hr hs hf K hK
              obtain ⟨f0, -⟩ := hf
              have e0 : ys 8 = _ := f0
              obtain ⟨j1, j0, jz, jo⟩ := HKC.out w' ((Ext.refl W4).drew.trans (hs (by first | exact Or.inr rfl | exact Or.inl rfl)))
              clear hs
              simp only [fill, Act.put, dstO, List.take_succ_cons, List.take_zero, List.setIfInBounds_toArray, List.set_cons_zero, List.set_cons_succ, List.getElem?_cons_zero, List.getElem?_cons_succ, Nat.zero_add, Nat.reduceAdd] at hK ⊢
              simp only [e0] at hK ⊢
              clear e0 f0
              refine OpB.mk' ?_
              go_simp
              exact hK.out _ _ rfl (fun h => by cases h) (fun _ => Ext.refl _)
            · refine opF2_step ?_
              intro ys l0 h0 w' hr hs hf K hK
              clear hf
              clear hs
              simp only [fill, Act.put, dstO, List.take_succ_cons, List.take_zero, List.setIfInBounds_toArray, List.set_cons_zero, List.set_cons_succ, List.getElem?_cons_zero, List.getElem?_cons_succ, Nat.zero_add, Nat.reduceAdd] at hK ⊢
              refine OpB.mk' ?_
              go_simp
              exact hK.out _ _ rfl (fun h => by cases h) (fun _ => Ext.refl _)
            · refine opF2_step ?_
              intro ys l0 h0 w' hr hs hf K hK
              clear hf
              clear hs
              simp only [fill, Act.put, dstO, List.take_succ_cons, List.take_zero, List.setIfInBounds_toArray, List.set_cons_zero, List.set_cons_succ, List.getElem?_cons_zero, List.getElem?_cons_succ, Nat.zero_add, Nat.reduceAdd] at hK ⊢
              refine OpB.mk' ?_
              go_simp
              exact hK.out _ _ rfl (fun h => by cases h) (fun _ => Ext.refl _)
            · refine opF2_step ?_
              intro ys l0 h0 w' hr hs hf K hK
              obtain ⟨f0, f1, -⟩ := hf
              have e0 : ys 10 = _ := f0
              have e1 : ys 11 = _ := f1
              clear hs
              simp only [fill, Act.put, dstO, List.take_succ_cons, List.take_zero, List.setIfInBounds_toArray, List.set_cons_zero, List.set_cons_succ, List.getElem?_cons_zero, List.getElem?_cons_succ, Nat.zero_add, Nat.reduceAdd] at hK ⊢
              simp only [e0, e1] at hK ⊢
              clear e0 e1 f0 f1
              refine OpB.mk' ?_
              go_simp
              exact hK.out _ _ rfl (fun h => by cases h) (fun _ => Ext.refl _)
            · refine opF2_step ?_
              intro ys l0 h0 w' hr hs hf K hK
              obtain ⟨f0, -⟩ := hf
              have e0 : ys 12 = _ := f0
              obtain ⟨j1, j0, jz, jo⟩ := HKC.out w' ((Ext.refl W4).drew.trans (hs (by first | exact Or.inr rfl | exact Or.inl rfl)))
              clear hs
              simp only [fill, Act.put, dstO, List.take_succ_cons, List.take_zero, List.setIfInBounds_toArray, List.set_cons_zero, List.set_cons_succ, List.getElem?_cons_zero, List.getElem?_cons_succ, Nat.zero_add, Nat.reduceAdd] at hK ⊢
              simp only [e0] at hK ⊢
              clear e0 f0
              refine OpB.mk' ?_
              go_simp
              exact hK.out _ _ rfl (fun h => by cases h) (fun _ => Ext.refl _)
            · refine opF2_step ?_
              intro ys l0 h0 w' hr hs hf K hK
              obtain ⟨f0, f1, -⟩ := hf
              have e0 : ys 0 = _ := f0
              have e1 : ys 1 = _ := f1
              clear hs
              simp only [fill, Act.put, dstO, List.take_succ_cons, List.take_zero, List.setIfInBounds_toArray, List.set_cons_zero, List.set_cons_succ, List.getElem?_cons_zero, List.getElem?_cons_succ, Nat.zero_add, Nat.reduceAdd] at hK ⊢
              simp only [e0, e1] at hK ⊢
              clear e0 e1 f0 f1
              refine OpB.mk' ?_
              go_simp
              exact hK.out _ _ rfl (fun h => by cases h) (fun _ => Ext.refl _)
            · refine opF2_step ?_
              intro ys l0 h0 w' hr hs hf K hK
              obtain ⟨f0, f1, -⟩ := hf
              have e0 : ys 14 = _ := f0
              have e1 : ys 9 = _ := f1
              obtain ⟨j1, j0, jz, jo⟩ := HKC.out w' ((Ext.refl W4).drew.trans (hs (by first | exact Or.inr rfl | exact Or.inl rfl)))
              clear hs
              simp only [fill, Act.put, dstO, List.take_succ_cons, List.take_zero, List.setIfInBounds_toArray, List.set_cons_zero, List.set_cons_succ, List.getElem?_cons_zero, List.getElem?_cons_succ, Nat.zero_add, Nat.reduceAdd] at hK ⊢
              simp only [e0, e1] at hK ⊢
              clear e0 e1 f0 f1
              refine OpB.mk' ?_
              go_simp
              refine hK.out undef _ ?_ (fun _ => (Ups.refl _ _).setCell _ _) (fun h => absurd rfl h)
              exact ownsRow_set jo
            intro ys l0 h0 w2 hr hf hsp
            obtain ⟨f2, f4, f13, f15, -⟩ := hf
            have e2 : ys 2 = _ := f2
            have e4 : ys 4 = _ := f4
            have e13 : ys 13 = _ := f13
            have hO2 := f15
            simp only [fill, Act.put, List.take_succ_cons, List.take_zero, List.setIfInBounds_toArray, List.set_cons_zero, List.set_cons_succ, Nat.zero_add, Nat.reduceAdd, List.drop_succ_cons, List.drop_zero]
            rw [e2, e4, e13]
            clear e2 f2 e4 f4 e13 f13
            clear hsp
            obtain ⟨d0, g0⟩ := ownsRow_cell hO2 (i := p) (by rw [List.length_set]; omega)
            have HO5 := Lib.hid hO2
            have hU5 : Ups g w w2 := (HU2.out.trans (Ups.ext HE4.out)).trans ((Ups.refl g W4).drew.trans hr)
            have HU5 := Lib.hid hU5
            clear hO2 hr hU5
            go_wp2
            go_roundw
            case rel => exact ⟨p, _, by simp, by rw [swpL_len]; exact HKL.out, HPM.out.trans HP2.out, HST.out (Int.le_of_lt hba), HU5.out.setCell _ _, by rw [HSW.out]; exact ownsRow_set HO5.out⟩
            case measure => simp [intOf]
          · rw [decide_eq_false hba] at HLS
            go_upto_region 4 with (fail)
            refine wp_region_extW (by kernel_rfl) (by kernel_rfl) ?_
            repeat (go_big_quiet_step ((go_at_call 117; exact HLS.out _)))
            refine wpQuiet_nil ?_
            rintro _ ⟨x2, rfl⟩
            have HE2 := Lib.hid x2.h
            have HS3 := Lib.hid (HSP.out (Or.inr (by omega)))
            clear k0 k1 HLS HX
            go_wp2
            go_roundw
            case rel => exact ⟨i + 1, k, by simp, by omega, by omega, HKL.out, HP2.out, by rw [Nat.min_eq_left (by omega)]; exact HS3.out, HU2.out.trans (Ups.ext HE2.out), ownsRow_ext HO2.out HE2.out⟩
            case measure => simp [intOf]; omega
    · have hge : ¬(i : Int) < (n : Int) := by omega
      have HF := Lib.hid (⟨m, hp, SrtTo.pairwise (by rw [Nat.min_eq_right (by omega)] at hs; rw [hml]; exact hs), hU, hO⟩ : ∃ l', l'.Perm l ∧ l'.Pairwise (· ≤ ·) ∧ Ups g w wr ∧ wr.ownsRow B 3 1 (.slice (some ⟨g, 0, none⟩) n cap) n (intVs l'))
      clear hml hp hs hU hO
      go_wp2
      (try simp only [Exit.inBlock, Exit.then])
      refine bodyPost_ret (results_none rfl _ _ _) rfl ?_
      exact ⟨rfl, HF.out⟩

set_option maxRecDepth 20000 in
set_option maxHeartbeats 1600000 in
theorem len64_small (n : Nat) (hn : n ≤ 12) (w : World) : Calls Tryz.prog 110 #[.int .u64 n] w (fun e w' => (∃ l : Int, e = .returned (.int .i64 l)) ∧ Ext w w') := by
  go_enter Tryz.func110, Tryz.ntmps110
  have : n = 0 ∨ n = 1 ∨ n = 2 ∨ n = 3 ∨ n = 4 ∨ n = 5 ∨ n = 6 ∨ n = 7 ∨ n = 8 ∨ n = 9 ∨ n = 10 ∨ n = 11 ∨ n = 12 := by omega
  rcases this with rfl | rfl | rfl | rfl | rfl | rfl | rfl | rfl | rfl | rfl | rfl | rfl | rfl
  all_goals
    go_wp2
    go_ret
    exact ⟨⟨_, rfl⟩, (by repeat (first | exact Ext.refl _ | assumption | refine Ext.drewN ?_ _ | refine Ext.drew ?_ | refine Ext.alloc ?_ _))⟩
set_option maxRecDepth 20000 in
theorem len_small (n : Nat) (hn : n ≤ 12) (w : World) : Calls Tryz.prog 81 #[.int .u64 n] w (fun e w' => (∃ l : Int, e = .returned (.int .i64 l)) ∧ Ext w w') := by
  have HL := Lib.hid (fun y => len64_small n hn y)
  go_enter Tryz.func81, Tryz.ntmps81
  go_wp2_with (go_at_call 110; refine (HL.out _).mono ?_; rintro e w2 ⟨⟨l, rfl⟩, hE2⟩)
  go_ret
  exact ⟨⟨_, rfl⟩, hE2⟩
set_option maxRecDepth 20000 in
set_option maxHeartbeats 1600000 in
theorem pdq_i (B g n cap : Nat) (l : List Int) (lim : Int) (hl : l.length = n) (hn : n ≤ 12) (w : World) (hO : w.ownsRow B 3 1 (.slice (some ⟨g, 0, none⟩) n cap) n (intVs l)) :
    Calls Tryz.prog 82 #[.slice (some ⟨g, 0, none⟩) n cap, .int .i64 0, .int .i64 n, .int .i64 lim] w (RetS B g n cap l w) := by
  have HI := Lib.hid (insertion_i B g n cap l hl (by omega) w hO)
  have hn' : (n : Int) ≤ 12 := by omega
  have hw : IntKind.i64.wrap (n : Int) = (n : Int) := IntWalk.i64_in _ (by omega)
  clear hl hO
  go_enter Tryz.func82, Tryz.ntmps82
  go_wp2
  refine wp_loop_rounds 1 ?_
  rw [rounds_succ]
  go_wp2_with (go_at_call 111; refine HI.out.mono ?_; rintro e w2 ⟨rfl, hR⟩)
  (try simp only [Exit.inBlock, Exit.then])
  refine bodyPost_ret (results_none rfl _ _ _) rfl ?_
  exact ⟨rfl, hR⟩
set_option maxRecDepth 20000 in
set_option maxHeartbeats 1600000 in
theorem Sort_i (B g n cap : Nat) (l : List Int) (hl : l.length = n) (hn : n ≤ 12) (w : World) (hO : w.ownsRow B 3 1 (.slice (some ⟨g, 0, none⟩) n cap) n (intVs l)) :
    Calls Tryz.prog 56 #[.slice (some ⟨g, 0, none⟩) n cap] w (RetS B g n cap l w) := by
  have HI := Lib.hid (fun lim y (h : Ext w y) => pdq_i B g n cap l lim hl hn y (ownsRow_ext hO h))
  have HN := Lib.hid (fun y => len_small n hn y)
  have hw : IntKind.u64.wrap (n : Int) = (n : Int) := by rw [IntKind.wrap_u64]; omega
  clear hl hO
  go_enter Tryz.func56, Tryz.ntmps56
  go_wp2_with (first
    | (go_at_call 81; refine (HN.out _).mono ?_; rintro e w2 ⟨⟨lim, rfl⟩, hE2⟩)
    | (go_at_call 82; refine (HI.out _ _ hE2).mono ?_; rintro e w3 ⟨rfl, l', h1, h2, h3, h4⟩))
  (try simp only [Exit.inBlock, Exit.then])
  refine bodyPost_ret (results_none rfl _ _ _) rfl ?_
  exact ⟨rfl, l', h1, h2, (Ups.ext hE2).trans h3, h4⟩
end Go.Proofs.YtppncdbhebgcaaaGreatDoor
namespace Go.Proofs.YtppncdbhebgcaaaGreatDoor
open Go.RowKit

set_option maxRecDepth 20000 in
set_option maxHeartbeats 3200000 in
theorem nthLo06 (T : Tab) (hG : TabG T) (k : Nat) (h1 : 1 ≤ k) (h2 : k ≤ T.length) (q : Option Addr) (c : Nat) (w : World) (hv : ListsAt w q T) :
    Calls Tryz.prog 35 #[.slice q T.length c, .func (.func 36) #[] #[], .int .i64 k] w (RetE (.int .i64 (cutN T.length (loT T) k)) w) := by
  have hn6 := hG.len
  have HV := Lib.hid (fun j (hj : j < T.length) y (h : Ext w y) => (low06 T hG.ok j hj q c y (hv.ext h) : Calls Tryz.prog 36 #[.slice q T.length c, .int .i64 j] y (RetE (.int .i64 (loT T j)) y)))
  have HCS := Lib.hid (fun (l : List Int) hs hp hl => cut_sorted (n := T.length) (x := loT T) (l := l) (k := k) hs hp h1 h2 hl)
  obtain ⟨x, hx⟩ : ∃ x : Nat → Int, x = loT T := ⟨_, rfl⟩
  rw [← hx] at HV HCS ⊢
  obtain ⟨n, hn⟩ : ∃ n, n = T.length := ⟨_, rfl⟩
  rw [← hn] at HV HCS hn6 h2 ⊢
  obtain ⟨i0, hi, hz0, hz1, hz2⟩ := info_parts info_a
  clear hv hG hx hn
  have h2' : (k : Int) ≤ (n : Int) := by omega
  go_enter Tryz.func35, Tryz.ntmps35
  go_wp2
  go_loopw [7, 11] (fun u i wr => ∃ j : Nat, j ≤ n ∧ i = .int .i64 j ∧ Ext w wr ∧ wr.ownsRow w.heap.size 3 1 u j (intVs ((List.range j).map x))) (fun _ i _ => n - (intOf i).toNat)
  case atStart => exact ⟨0, Nat.zero_le _, rfl, Ext.refl _, World.ownsRow_nil _ _ _ _⟩
  case round =>
    obtain ⟨j, hj, rfl, hE, hO⟩ := hrel
    have HE := Lib.hid hE
    have HO := Lib.hid hO
    clear hE hO
    by_cases hlt : j < n
    · have hlt' : (j : Int) < (n : Int) := by omega
      have HC := Lib.hid (HV.out j hlt wr HE.out)
      have HPN := Lib.hid (show (List.range (j + 1)).map x = (List.range j).map x ++ [x j] from by rw [List.range_succ, List.map_append]; rfl)
      obtain ⟨a, ha⟩ : ∃ a, a = x j := ⟨_, rfl⟩
      rw [← ha] at HC HPN
      clear ha
      go_wp2_with (first
        | (go_at_call 36; refine HC.out.mono ?_; rintro e w2 ⟨rfl, hE2⟩)
        | (at_builtin; refine wpList_append_lies _ rfl (.tmp 14) (.tmp 19) 23 rfl w.heap.size 3 i0 (.int .i64 0) 1 8 Tryz.underlying23 hi hz0 hz1 hz2 rfl (by decide) _ j _ rfl (ownsRow_ext HO.out (hE2.alloc _)) ⟨w2.heap.size, 0, none⟩ 1 1 [.int .i64 a] rfl rfl (hnewsE (Ext.refl _) rfl) (one_int _) (by decide) ?c3 ?c4 ?c5 (w2.heap.size + 1) (size_alloc _ _) ?_))
      case c3 => unfold maxLen; omega
      case c4 => omega
      case c5 => have := HE.out.size; have := hE2.size; first | omega | (rw [size_alloc]; omega)
      intro g4 cap4 w4 hown4 hgr4 hat4 hlt4
      have hE4 : Ext w w4 := Below.grown (HE.out.trans (hE2.alloc _)) hgr4 (HE.out.trans (hE2.alloc _)).size (fun i hi => (HO.out.lt i hi).1)
      have HO4 := Lib.hid hown4
      have HE4 := Lib.hid hE4
      clear hown4 hgr4 hat4 hlt4 hE4 hE2
      go_wp2
      go_roundw
      case rel => exact ⟨j + 1, by omega, by simp, HE4.out, by rw [HPN.out, intVs_snoc]; exact HO4.out⟩
      case measure => simp [intOf]; omega
    · obtain rfl : j = n := by omega
      have hge : ¬(j : Int) < (j : Int) := by omega
      obtain ⟨g, cg, rfl, -⟩ := ownsRow_at HO.out 0 (by omega)
      have HSO := Lib.hid (Sort_i w.heap.size g j cg ((List.range j).map x) (by simp) (by omega) wr HO.out)
      have hgB := (HO.out.lt g rfl).1
      have HGB := Lib.hid hgB
      clear hgB
      go_upto_region 8 with (go_at_call 56; refine HSO.out.mono ?_; rintro e w2 ⟨rfl, l', hp, hs, hU, hO2⟩)
      have hll : l'.length = j := by rw [hp.length_eq]; simp
      obtain ⟨m, hm⟩ : ∃ m, m = j - k := ⟨_, rfl⟩
      have hml : m < l'.length := by omega
      obtain ⟨hc, -⟩ := ownsRow_cell hO2 (i := m) hml
      have hcs := HCS.out l' hs hp (by omega)
      have e : l'[j - k]'(by omega) = l'[m] := by congr 1; omega
      rw [e] at hcs
      rw [hcs] at hc
      have hw : IntKind.i64.wrap ((j : Int) - (k : Int)) = (m : Int) := by rw [IntKind.wrap_i64]; omega
      have hm0 : (m : Int) < (j : Int) := by omega
      have HEE := Lib.hid (HE.out.ups hU HGB.out)
      clear hp hs hU hO2 hll hcs e hm hml HSO
      go_wp2
      go_ret
      exact RetE.fin HEE.out rfl

set_option maxRecDepth 20000 in
set_option maxHeartbeats 3200000 in
theorem nthHi06 (T : Tab) (hG : TabG T) (k : Nat) (h1 : 1 ≤ k) (h2 : k ≤ T.length) (q : Option Addr) (c : Nat) (w : World) (hv : ListsAt w q T) :
    Calls Tryz.prog 35 #[.slice q T.length c, .func (.func 37) #[] #[], .int .i64 k] w (RetE (.int .i64 (cutN T.length (hiT T) k)) w) := by
  have hn6 := hG.len
  have HV := Lib.hid (fun j (hj : j < T.length) y (h : Ext w y) => (high06 T hG.ok j hj hG.ls q c y (hv.ext h) : Calls Tryz.prog 37 #[.slice q T.length c, .int .i64 j] y (RetE (.int .i64 (hiT T j)) y)))
  have HCS := Lib.hid (fun (l : List Int) hs hp hl => cut_sorted (n := T.length) (x := hiT T) (l := l) (k := k) hs hp h1 h2 hl)
  obtain ⟨x, hx⟩ : ∃ x : Nat → Int, x = hiT T := ⟨_, rfl⟩
  rw [← hx] at HV HCS ⊢
  obtain ⟨n, hn⟩ : ∃ n, n = T.length := ⟨_, rfl⟩
  rw [← hn] at HV HCS hn6 h2 ⊢
  obtain ⟨i0, hi, hz0, hz1, hz2⟩ := info_parts info_a
  clear hv hG hx hn
  have h2' : (k : Int) ≤ (n : Int) := by omega
  go_enter Tryz.func35, Tryz.ntmps35
  go_wp2
  go_loopw [7, 11] (fun u i wr => ∃ j : Nat, j ≤ n ∧ i = .int .i64 j ∧ Ext w wr ∧ wr.ownsRow w.heap.size 3 1 u j (intVs ((List.range j).map x))) (fun _ i _ => n - (intOf i).toNat)
  case atStart => exact ⟨0, Nat.zero_le _, rfl, Ext.refl _, World.ownsRow_nil _ _ _ _⟩
  case round =>
    obtain ⟨j, hj, rfl, hE, hO⟩ := hrel
    have HE := Lib.hid hE
    have HO := Lib.hid hO
    clear hE hO
    by_cases hlt : j < n
    · have hlt' : (j : Int) < (n : Int) := by omega
      have HC := Lib.hid (HV.out j hlt wr HE.out)
      have HPN := Lib.hid (show (List.range (j + 1)).map x = (List.range j).map x ++ [x j] from by rw [List.range_succ, List.map_append]; rfl)
      obtain ⟨a, ha⟩ : ∃ a, a = x j := ⟨_, rfl⟩
      rw [← ha] at HC HPN
      clear ha
      go_wp2_with (first
        | (go_at_call 37; refine HC.out.mono ?_; rintro e w2 ⟨rfl, hE2⟩)
        | (at_builtin; refine wpList_append_lies _ rfl (.tmp 14) (.tmp 19) 23 rfl w.heap.size 3 i0 (.int .i64 0) 1 8 Tryz.underlying23 hi hz0 hz1 hz2 rfl (by decide) _ j _ rfl (ownsRow_ext HO.out (hE2.alloc _)) ⟨w2.heap.size, 0, none⟩ 1 1 [.int .i64 a] rfl rfl (hnewsE (Ext.refl _) rfl) (one_int _) (by decide) ?c3 ?c4 ?c5 (w2.heap.size + 1) (size_alloc _ _) ?_))
      case c3 => unfold maxLen; omega
      case c4 => omega
      case c5 => have := HE.out.size; have := hE2.size; first | omega | (rw [size_alloc]; omega)
      intro g4 cap4 w4 hown4 hgr4 hat4 hlt4
      have hE4 : Ext w w4 := Below.grown (HE.out.trans (hE2.alloc _)) hgr4 (HE.out.trans (hE2.alloc _)).size (fun i hi => (HO.out.lt i hi).1)
      have HO4 := Lib.hid hown4
      have HE4 := Lib.hid hE4
      clear hown4 hgr4 hat4 hlt4 hE4 hE2
      go_wp2
      go_roundw
      case rel => exact ⟨j + 1, by omega, by simp, HE4.out, by rw [HPN.out, intVs_snoc]; exact HO4.out⟩
      case measure => simp [intOf]; omega
    · obtain rfl : j = n := by omega
      have hge : ¬(j : Int) < (j : Int) := by omega
      obtain ⟨g, cg, rfl, -⟩ := ownsRow_at HO.out 0 (by omega)
      have HSO := Lib.hid (Sort_i w.heap.size g j cg ((List.range j).map x) (by simp) (by omega) wr HO.out)
      have hgB := (HO.out.lt g rfl).1
      have HGB := Lib.hid hgB
      clear hgB
      go_upto_region 8 with (go_at_call 56; refine HSO.out.mono ?_; rintro e w2 ⟨rfl, l', hp, hs, hU, hO2⟩)
      have hll : l'.length = j := by rw [hp.length_eq]; simp
      obtain ⟨m, hm⟩ : ∃ m, m = j - k := ⟨_, rfl⟩
      have hml : m < l'.length := by omega
      obtain ⟨hc, -⟩ := ownsRow_cell hO2 (i := m) hml
      have hcs := HCS.out l' hs hp (by omega)
      have e : l'[j - k]'(by omega) = l'[m] := by congr 1; omega
      rw [e] at hcs
      rw [hcs] at hc
      have hw : IntKind.i64.wrap ((j : Int) - (k : Int)) = (m : Int) := by rw [IntKind.wrap_i64]; omega
      have hm0 : (m : Int) < (j : Int) := by omega
      have HEE := Lib.hid (HE.out.ups hU HGB.out)
      clear hp hs hU hO2 hll hcs e hm hml HSO
      go_wp2
      go_ret
      exact RetE.fin HEE.out rfl

theorem cutEnd06 {w W : World} {s : Nat} {a : Act} {lo hi z lo' hi' z' : Int} {x y : Value} {t : TypeId} (hk : lo' = lo ∧ hi' = hi ∧ z' = z) (hE : Ext w W)
    (hm : W.heap[s]? = some (.cells #[x, y] t)) (hs : w.heap.size ≤ s) (ha : a.tmps[4]? = some (.pointer (some ⟨s, 0, none⟩))) (hb : a.tmps[5]? = some (.int .i64 z)) (hd : a.defers = []) :
    bodyPost Tryz.prog Tryz.f10 (RetSp lo' hi' z' w) .ret a ((W.setCell ⟨s, 0, none⟩ (.int .i64 lo)).setCell ⟨s, 1, none⟩ (.int .i64 hi)) := by
  have h := heap_pair (y0 := .int .i64 lo) (y1 := .int .i64 hi) hm
  have c0 := cell_of_heap h 0
  have c1 := cell_of_heap h 1
  simp at c0 c1
  refine bodyPost_ret (v := .tuple #[.agg #[.int .i64 lo, .int .i64 hi], .int .i64 z]) ?_ hd ⟨by rw [hk.1, hk.2.1, hk.2.2], Ext.setCell (Ext.setCell hE (p := ⟨s, 0, none⟩) hs _) (p := ⟨s, 1, none⟩) hs _⟩
  cases a with
  | mk tm df =>
    simp only at ha hb
    simp [results, Tryz.results10, go_sem, ha, hb, c0, c1]

noncomputable def cutLoA (C : Ch) (n : Int) : Int := okN (errF C n) (cutN (tabC C).length (loT (tabC C)) n)
noncomputable def cutHiA (C : Ch) (n : Int) : Int := okN (errF C n) (cutN (tabC C).length (hiT (tabC C)) n)
set_option maxRecDepth 20000 in
set_option maxHeartbeats 3200000 in
theorem Cut06 (C : Ch) (n : Int) (v : Value) (w : World) (hv : ChV w v C) (hs : ChSm C) (hT : TabW w) (hwf : (Lit.int .i64 n).wf = true) :
    Calls Tryz.prog 10 #[v, .int .i64 n] w (RetSp (cutLoA C n) (cutHiA C n) (errF C n) w) := by
  have HV := Lib.hid hv
  have HS := Lib.hid hs
  have HT := Lib.hid hT
  obtain ⟨p, c, q, d, rfl, hp, hq⟩ := hv
  clear hp hq hT hs
  go_enter Tryz.func10, Tryz.ntmps10
  go_upto_region 1 with (fail)
  obtain ⟨s0, hs0⟩ : ∃ s0, s0 = w.heap.size := ⟨_, rfl⟩
  obtain ⟨W, hW⟩ : ∃ W, W = (w.alloc (.cells #[.slice p C.meters.length c, .slice q C.extra.length d, .int .i64 C.frm, .int .i64 C.tto] 25)).alloc (.cells #[.int .i64 0, .int .i64 0] 38) := ⟨_, rfl⟩
  have m0 : W.heap[s0]? = some (.cells #[.slice p C.meters.length c, .slice q C.extra.length d, .int .i64 C.frm, .int .i64 C.tto] 25) := by rw [hs0, hW, Below.heap_alloc _ _ _ (by rw [size_alloc]; omega)]; exact heap_new _ _
  have m1 : W.heap[s0 + 1]? = some (.cells #[.int .i64 0, .int .i64 0] 38) := by rw [hs0, hW]; exact heap_new2 _ _ _
  have HM1 := Lib.hid m1
  have HSZ := Lib.hid (show w.heap.size ≤ s0 + 1 from by omega)
  have hE : Ext w W := by rw [hW]; exact Ext.alloc (Ext.alloc (Ext.refl _) _) _
  rw [← hs0, ← hW]
  have HKC := Lib.hid (fun y (h : Ext W y) => (⟨h.cell (cell_of_heap m0 0), h.cell (cell_of_heap m0 1), h.cell (cell_of_heap m0 2), h.cell (cell_of_heap m0 3)⟩ :
    y.cell? ⟨s0, 0, none⟩ = some (.slice p C.meters.length c) ∧ y.cell? ⟨s0, 1, none⟩ = some (.slice q C.extra.length d) ∧ y.cell? ⟨s0, 2, none⟩ = some (.int .i64 C.frm) ∧ y.cell? ⟨s0, 3, none⟩ = some (.int .i64 C.tto)))
  have HE := Lib.hid hE
  have HVW := Lib.hid (fun y (h : Ext W y) => HV.out.ext (HE.out.trans h))
  obtain ⟨b, hb⟩ : ∃ b, b = isFB C n := ⟨_, rfl⟩
  have HIS := Lib.hid (fun y (h : Ext W y) => (show Calls Tryz.prog 34 #[.agg #[.slice p C.meters.length c, .slice q C.extra.length d, .int .i64 C.frm, .int .i64 C.tto], .int .i64 n] y (RetE (.bool b) y) from by rw [hb]; exact isFirst06 C n _ y (HVW.out y h) hwf (by have := HS.out.nm; omega)))
  have HB := Lib.hid hb
  clear hb hwf
  clear hW m0 m1 hE hs0
  obtain ⟨T, hTT⟩ : ∃ T, T = askT C b := ⟨_, rfl⟩
  obtain ⟨z, hz⟩ : ∃ z, z = errC C b := ⟨_, rfl⟩
  have HAK := Lib.hid (fun y (h : Ext W y) => (show Calls Tryz.prog 31 #[.agg #[.slice p C.meters.length c, .slice q C.extra.length d, .int .i64 C.frm, .int .i64 C.tto], .bool b] y (RetTb T z y) from by rw [hTT, hz]; exact ask06 C b _ y (HV.out.ext (HE.out.trans h)) HS.out (HT.out.ext (HE.out.trans h))))
  have HTZ := Lib.hid (⟨hTT, hz⟩ : T = askT C b ∧ z = errC C b)
  clear hTT hz
  refine wp_region_facts 9 [[], [], [], [1, 2], [0, 3], [4], [5], [5], [6]] [8, 7] Ext (FL [Is (.agg #[.slice p C.meters.length c, .slice q C.extra.length d, .int .i64 C.frm, .int .i64 C.tto]), Is (.agg #[.slice p C.meters.length c, .slice q C.extra.length d, .int .i64 C.frm, .int .i64 C.tto]), Is (.int .i64 n), Is (.bool b), TabF T z W.heap.size, TabF T z W.heap.size, RowF T W.heap.size, Is (.int .i64 z), RowF T W.heap.size]) (by kernel_rfl) (by kernel_rfl) Ext.refl (fun _ _ _ => Ext.trans) (fun _ _ => Ext.size) (FL.mono ⟨Is.mono, Is.mono, Is.mono, Is.mono, TabF.mono, TabF.mono, RowF.mono, Is.mono, RowF.mono, trivial⟩) ⟨?_, ?_, ?_, ?_, ?_, ?_, ?_, ?_, ?_, trivial⟩ ?_
  · refine opF_step ?_
    intro ys l0 h0 w' hr hf K hK
    clear hf
    obtain ⟨j0, j1, j2, j3⟩ := HKC.out w' ((Ext.refl W).drew.trans hr)
    simp only [fill, Act.put, dstO, List.take_succ_cons, List.take_zero, List.setIfInBounds_toArray, List.set_cons_zero, List.set_cons_succ, List.getElem?_cons_zero, Nat.zero_add, Nat.reduceAdd] at hK ⊢
    refine OpB.mk' ?_
    go_simp
    exact hK.out _ _ rfl (Ext.refl _)
  · refine opF_step ?_
    intro ys l0 h0 w' hr hf K hK
    clear hf
    obtain ⟨j0, j1, j2, j3⟩ := HKC.out w' ((Ext.refl W).drew.trans hr)
    simp only [fill, Act.put, dstO, List.take_succ_cons, List.take_zero, List.setIfInBounds_toArray, List.set_cons_zero, List.set_cons_succ, List.getElem?_cons_zero, List.getElem?_cons_succ, Nat.zero_add, Nat.reduceAdd] at hK ⊢
    refine OpB.mk' ?_
    go_simp
    exact hK.out _ _ rfl (Ext.refl _)
  · refine opF_step ?_
    intro ys l0 h0 w' hr hf K hK
    clear hf
    simp only [fill, Act.put, dstO, List.take_succ_cons, List.take_zero, List.setIfInBounds_toArray, List.set_cons_zero, List.set_cons_succ, List.getElem?_cons_zero, List.getElem?_cons_succ, Nat.zero_add, Nat.reduceAdd] at hK ⊢
    refine OpB.mk' ?_
    go_simp
    exact hK.out _ _ rfl (Ext.refl _)
  · refine opF_step ?_
    intro ys l0 h0 w' hr hf K hK
    obtain ⟨f0, f1, -⟩ := hf
    have e0 : ys 1 = _ := f0
    have e1 : ys 2 = _ := f1
    simp only [fill, Act.put, dstO, List.take_succ_cons, List.take_zero, List.setIfInBounds_toArray, List.set_cons_zero, List.set_cons_succ, List.getElem?_cons_zero, List.getElem?_cons_succ, Nat.zero_add, Nat.reduceAdd] at hK ⊢
    simp only [e0, e1] at hK ⊢
    clear e0 e1 f0 f1
    refine OpB.mk' ?_
    go_simp
    refine (HIS.out w' ((Ext.refl W).drew.trans hr)).mono ?_
    rintro e w2 ⟨rfl, hE2⟩
    exact hK.out _ _ rfl hE2
  · refine opF_step ?_
    intro ys l0 h0 w' hr hf K hK
    obtain ⟨f0, f1, -⟩ := hf
    have e0 : ys 0 = _ := f0
    have e1 : ys 3 = _ := f1
    simp only [fill, Act.put, dstO, List.take_succ_cons, List.take_zero, List.setIfInBounds_toArray, List.set_cons_zero, List.set_cons_succ, List.getElem?_cons_zero, List.getElem?_cons_succ, Nat.zero_add, Nat.reduceAdd] at hK ⊢
    simp only [e0, e1] at hK ⊢
    clear e0 e1 f0 f1
    refine OpB.mk' ?_
    go_simp
    refine (HAK.out w' ((Ext.refl W).drew.trans hr)).mono ?_
    rintro e w2 ⟨u, vs, rfl, hR, hE2, hcp⟩
    exact hK.out _ _ ⟨u, vs, rfl, hR.base (Ext.size ((Ext.refl W).drew.trans hr)), hcp⟩ hE2
  · refine opF_step ?_
    intro ys l0 h0 w' hr hf K hK
    obtain ⟨f0, -⟩ := hf
    obtain ⟨u, vs, e0, hR, hcp⟩ := f0
    simp only [fill, Act.put, dstO, List.take_succ_cons, List.take_zero, List.setIfInBounds_toArray, List.set_cons_zero, List.set_cons_succ, List.getElem?_cons_zero, List.getElem?_cons_succ, Nat.zero_add, Nat.reduceAdd] at hK ⊢
    simp only [e0] at hK ⊢
    clear e0
    refine OpB.mk' ?_
    go_simp
    exact hK.out _ _ ⟨u, vs, rfl, hR, hcp⟩ (Ext.refl _)
  · refine opF_step ?_
    intro ys l0 h0 w' hr hf K hK
    obtain ⟨f0, -⟩ := hf
    obtain ⟨u, vs, e0, hR, hcp⟩ := f0
    simp only [fill, Act.put, dstO, List.take_succ_cons, List.take_zero, List.setIfInBounds_toArray, List.set_cons_zero, List.set_cons_succ, List.getElem?_cons_zero, List.getElem?_cons_succ, Nat.zero_add, Nat.reduceAdd] at hK ⊢
    simp only [e0] at hK ⊢
    clear e0
    refine OpB.mk' ?_
    go_simp
    exact hK.out _ _ ⟨vs, hR, hcp⟩ (Ext.refl _)
  · refine opF_step ?_
    intro ys l0 h0 w' hr hf K hK
    obtain ⟨f0, -⟩ := hf
    obtain ⟨u, vs, e0, hR, hcp⟩ := f0
    simp only [fill, Act.put, dstO, List.take_succ_cons, List.take_zero, List.setIfInBounds_toArray, List.set_cons_zero, List.set_cons_succ, List.getElem?_cons_zero, List.getElem?_cons_succ, Nat.zero_add, Nat.reduceAdd] at hK ⊢
    simp only [e0] at hK ⊢
    clear e0
    refine OpB.mk' ?_
    go_simp
    exact hK.out _ _ rfl (Ext.refl _)
  · refine opF_step ?_
    intro ys l0 h0 w' hr hf K hK
    obtain ⟨f0, -⟩ := hf
    simp only [fill, Act.put, dstO, List.take_succ_cons, List.take_zero, List.setIfInBounds_toArray, List.set_cons_zero, List.set_cons_succ, List.getElem?_cons_zero, List.getElem?_cons_succ, Nat.zero_add, Nat.reduceAdd] at hK ⊢
    refine OpB.mk' ?_
    go_simp
    exact hK.out _ _ f0 (Ext.refl _)
  intro ys l0 h0 w2 hr hf hsp
  obtain ⟨f8, f7, -⟩ := hf
  obtain ⟨vs, hR, hcp⟩ := f8
  have e7 : ys 7 = _ := f7
  simp only [fill, Act.put, List.take_succ_cons, List.take_zero, List.setIfInBounds_toArray, List.set_cons_zero, List.set_cons_succ, Nat.zero_add, Nat.reduceAdd, List.drop_succ_cons, List.drop_zero]
  rw [e7]
  clear e7 f7
  generalize ys 8 = u at hR ⊢
  clear hsp
  have hEW : Ext W w2 := (Ext.refl W).drew.trans hr
  have HR := Lib.hid hR
  have HCP := Lib.hid hcp
  have HEW := Lib.hid hEW
  obtain ⟨qt, ct, rfl, hLT⟩ := hR.lists
  have HLT := Lib.hid hLT
  clear hr hEW hR hcp hLT HAK
  by_cases hz0 : z = 0
  case neg =>
    have hg : (z == 0) = false := by simpa using hz0
    have HZ := Lib.hid (show errF C n = z from by unfold errF; rw [← HB.out, HTZ.out.2])
    have HNA := Lib.hid (show cutLoA C n = 0 ∧ cutHiA C n = 0 from ⟨by unfold cutLoA; rw [HZ.out, okN_ne hz0], by unfold cutHiA; rw [HZ.out, okN_ne hz0]⟩)
    clear hz0
    have hm := heap_ext3 HM1.out HEW.out
    have d0 := cell_of_heap hm 0
    have d1 := cell_of_heap hm 1
    have g0 := cell_frozen hm 0
    have g1 := cell_frozen hm 1
    have HMW := Lib.hid hm
    clear hm
    go_wp2
    refine cutEnd06 ⟨HNA.out.1, HNA.out.2, HZ.out⟩ (HE.out.trans HEW.out) HMW.out HSZ.out ?_ ?_ ?_ <;> rfl
  subst hz0
  obtain ⟨hC, hbt, hso⟩ := errC_0 HTZ.out.2.symm
  have hTC : T = tabC C := by rw [HTZ.out.1, askT_0 HTZ.out.2.symm]
  have htl : T.length = C.meters.length := by rw [hTC, tabC_len]
  obtain ⟨h0, h1⟩ := isFB_iff.1 (HB.out.symm.trans hbt)
  obtain ⟨i, rfl⟩ : ∃ i : Nat, n = i := ⟨n.toNat, by omega⟩
  have hG : TabG T := by rw [hTC]; exact tabC_ok hC hso
  have HZ := Lib.hid (show errF C i = 0 from by unfold errF; rw [← HB.out, ← HTZ.out.2])
  have HNA := Lib.hid (show cutLoA C i = cutN T.length (loT T) i ∧ cutHiA C i = cutN T.length (hiT T) i from ⟨by unfold cutLoA; rw [HZ.out, okN_0 rfl, hTC], by unfold cutHiA; rw [HZ.out, okN_0 rfl, hTC]⟩)
  have HL1 := Lib.hid (fun y (h : Ext w2 y) => nthLo06 T hG i (by omega) (by omega) qt ct y (HLT.out.ext h))
  have HL2 := Lib.hid (fun y (h : Ext w2 y) => nthHi06 T hG i (by omega) (by omega) qt ct y (HLT.out.ext h))
  obtain ⟨x1, hx1⟩ : ∃ x, x = cutN T.length (loT T) i := ⟨_, rfl⟩
  obtain ⟨x2, hx2⟩ : ∃ x, x = cutN T.length (hiT T) i := ⟨_, rfl⟩
  rw [← hx1] at HL1 HNA
  rw [← hx2] at HL2 HNA
  clear hC hbt hso hTC htl h0 h1 hG hx1 hx2
  go_wp2_with (first
    | (go_at_call 35; refine (HL2.out _ hE3).mono ?_; rintro e w4 ⟨rfl, hE4⟩; have hm := heap_ext3 HM1.out (HEW.out.trans (hE3.trans hE4)); have d0 := cell_of_heap hm 0; have d1 := cell_of_heap hm 1; have g0 := cell_frozen hm 0; have g1 := cell_frozen hm 1)
    | (go_at_call 35; refine (HL1.out _ (Ext.refl _)).mono ?_; rintro e w3 ⟨rfl, hE3⟩))
  refine cutEnd06 ⟨HNA.out.1, HNA.out.2, HZ.out⟩ (HE.out.trans (HEW.out.trans (hE3.trans hE4))) hm HSZ.out ?_ ?_ ?_ <;> rfl
end Go.Proofs.YtppncdbhebgcaaaGreatDoor
namespace Go.Proofs.YtppncdbhebgcaaaGreatDoor
open Go.RowKit

noncomputable def topA (C : Ch) (n : Int) : List Int := okL (errF C n) (topL (tabC C) n)
noncomputable def mayA (C : Ch) (n : Int) : List Int := okL (errF C n) (mayL (tabC C) n)

set_option maxRecDepth 20000 in
theorem topFn06 (lo hi f : Int) (b : Nat) (w : World) (hc : w.cell? ⟨b, 0, none⟩ = some (.int .i64 f)) :
    Calls Tryz.prog 53 #[.agg #[.int .i64 lo, .int .i64 hi], .pointer (some ⟨b, 0, none⟩)] w (RetE (.bool (decide (hi ≤ f))) w) := by
  go_enter Tryz.func53, Tryz.ntmps53
  go_upto_region 1 with (fail)
  obtain ⟨s0, hs0⟩ : ∃ s0, s0 = w.heap.size := ⟨_, rfl⟩
  obtain ⟨W, hW⟩ : ∃ W, W = w.alloc (.cells #[.int .i64 lo, .int .i64 hi] 38) := ⟨_, rfl⟩
  have m0 : W.heap[s0]? = some (.cells #[.int .i64 lo, .int .i64 hi] 38) := by rw [hs0, hW]; exact heap_new _ _
  have hE : Ext w W := by rw [hW]; exact Ext.alloc (Ext.refl _) _
  rw [← hs0, ← hW]
  have d0 := cell_of_heap m0 0
  have d1 := cell_of_heap m0 1
  have e0 := hE.cell hc
  have HE := Lib.hid hE
  clear hW m0 hE hs0 hc
  by_cases h : hi ≤ f
  · have HB := Lib.hid (decide_eq_true h)
    go_wp2
    go_ret
    exact RetE.fin HE.out (by rw [HB.out]; rfl)
  · have HB := Lib.hid (decide_eq_false h)
    go_wp2
    go_ret
    exact RetE.fin HE.out (by rw [HB.out]; rfl)

set_option maxRecDepth 20000 in
set_option maxHeartbeats 3200000 in
theorem titlesTop06 (C : Ch) (n : Int) (bf : Nat) (v : Value) (w : World) (hv : ChV w v C) (hs : ChSm C) (hT : TabW w) (hwf : (Lit.int .i64 n).wf = true) (hbf : w.cell? ⟨bf, 0, none⟩ = some (.int .i64 n)) :
    Calls Tryz.prog 52 #[v, .int .i64 n, .func (.func 53) #[] #[.pointer (some ⟨bf, 0, none⟩)]] w (RetL (topA C n) (errF C n) w) := by
  have HBF := Lib.hid hbf
  clear hbf
  have HV := Lib.hid hv
  have HS := Lib.hid hs
  have HT := Lib.hid hT
  obtain ⟨p, c, q, d, rfl, hp, hq⟩ := hv
  clear hp hq hT hs
  go_enter Tryz.func52, Tryz.ntmps52
  go_upto_region 1 with (fail)
  obtain ⟨s0, hs0⟩ : ∃ s0, s0 = w.heap.size := ⟨_, rfl⟩
  obtain ⟨W, hW⟩ : ∃ W, W = w.alloc (.cells #[.slice p C.meters.length c, .slice q C.extra.length d, .int .i64 C.frm, .int .i64 C.tto] 25) := ⟨_, rfl⟩
  have m0 : W.heap[s0]? = some (.cells #[.slice p C.meters.length c, .slice q C.extra.length d, .int .i64 C.frm, .int .i64 C.tto] 25) := by rw [hs0, hW]; exact heap_new _ _
  have hE : Ext w W := by rw [hW]; exact Ext.alloc (Ext.refl _) _
  rw [← hs0, ← hW]
  have HKC := Lib.hid (fun y (h : Ext W y) => (⟨h.cell (cell_of_heap m0 0), h.cell (cell_of_heap m0 1), h.cell (cell_of_heap m0 2), h.cell (cell_of_heap m0 3)⟩ :
    y.cell? ⟨s0, 0, none⟩ = some (.slice p C.meters.length c) ∧ y.cell? ⟨s0, 1, none⟩ = some (.slice q C.extra.length d) ∧ y.cell? ⟨s0, 2, none⟩ = some (.int .i64 C.frm) ∧ y.cell? ⟨s0, 3, none⟩ = some (.int .i64 C.tto)))
  have HE := Lib.hid hE
  have HVW := Lib.hid (fun y (h : Ext W y) => HV.out.ext (HE.out.trans h))
  obtain ⟨b, hb⟩ : ∃ b, b = isFB C n := ⟨_, rfl⟩
  have HIS := Lib.hid (fun y (h : Ext W y) => (show Calls Tryz.prog 34 #[.agg #[.slice p C.meters.length c, .slice q C.extra.length d, .int .i64 C.frm, .int .i64 C.tto], .int .i64 n] y (RetE (.bool b) y) from by rw [hb]; exact isFirst06 C n _ y (HVW.out y h) hwf (by have := HS.out.nm; omega)))
  have HB := Lib.hid hb
  clear hb hwf
  clear hW m0 hE hs0
  obtain ⟨T, hTT⟩ : ∃ T, T = askT C b := ⟨_, rfl⟩
  obtain ⟨z, hz⟩ : ∃ z, z = errC C b := ⟨_, rfl⟩
  have HAK := Lib.hid (fun y (h : Ext W y) => (show Calls Tryz.prog 31 #[.agg #[.slice p C.meters.length c, .slice q C.extra.length d, .int .i64 C.frm, .int .i64 C.tto], .bool b] y (RetTb T z y) from by rw [hTT, hz]; exact ask06 C b _ y (HV.out.ext (HE.out.trans h)) HS.out (HT.out.ext (HE.out.trans h))))
  have HTZ := Lib.hid (⟨hTT, hz⟩ : T = askT C b ∧ z = errC C b)
  clear hTT hz
  refine wp_region_facts 9 [[], [], [], [1, 2], [0, 3], [4], [5], [5], [6]] [8, 7] Ext (FL [Is (.agg #[.slice p C.meters.length c, .slice q C.extra.length d, .int .i64 C.frm, .int .i64 C.tto]), Is (.agg #[.slice p C.meters.length c, .slice q C.extra.length d, .int .i64 C.frm, .int .i64 C.tto]), Is (.int .i64 n), Is (.bool b), TabF T z W.heap.size, TabF T z W.heap.size, RowF T W.heap.size, Is (.int .i64 z), RowF T W.heap.size]) (by kernel_rfl) (by kernel_rfl) Ext.refl (fun _ _ _ => Ext.trans) (fun _ _ => Ext.size) (FL.mono ⟨Is.mono, Is.mono, Is.mono, Is.mono, TabF.mono, TabF.mono, RowF.mono, Is.mono, RowF.mono, trivial⟩) ⟨?_, ?_, ?_, ?_, ?_, ?_, ?_, ?_, ?_, trivial⟩ ?_
  · refine opF_step ?_
    intro ys l0 h0 w' hr hf K hK
    clear hf
    obtain ⟨j0, j1, j2, j3⟩ := HKC.out w' ((Ext.refl W).drew.trans hr)
    simp only [fill, Act.put, dstO, List.take_succ_cons, List.take_zero, List.setIfInBounds_toArray, List.set_cons_zero, List.set_cons_succ, List.getElem?_cons_zero, Nat.zero_add, Nat.reduceAdd] at hK ⊢
    refine OpB.mk' ?_
    go_simp
    exact hK.out _ _ rfl (Ext.refl _)
  · refine opF_step ?_
    intro ys l0 h0 w' hr hf K hK
    clear hf
    obtain ⟨j0, j1, j2, j3⟩ := HKC.out w' ((Ext.refl W).drew.trans hr)
    simp only [fill, Act.put, dstO, List.take_succ_cons, List.take_zero, List.setIfInBounds_toArray, List.set_cons_zero, List.set_cons_succ, List.getElem?_cons_zero, List.getElem?_cons_succ, Nat.zero_add, Nat.reduceAdd] at hK ⊢
    refine OpB.mk' ?_
    go_simp
    exact hK.out _ _ rfl (Ext.refl _)
  · refine opF_step ?_
    intro ys l0 h0 w' hr hf K hK
    clear hf
    simp only [fill, Act.put, dstO, List.take_succ_cons, List.take_zero, List.setIfInBounds_toArray, List.set_cons_zero, List.set_cons_succ, List.getElem?_cons_zero, List.getElem?_cons_succ, Nat.zero_add, Nat.reduceAdd] at hK ⊢
    refine OpB.mk' ?_
    go_simp
    exact hK.out _ _ rfl (Ext.refl _)
  · refine opF_step ?_
    intro ys l0 h0 w' hr hf K hK
    obtain ⟨f0, f1, -⟩ := hf
    have e0 : ys 1 = _ := f0
    have e1 : ys 2 = _ := f1
    simp only [fill, Act.put, dstO, List.take_succ_cons, List.take_zero, List.setIfInBounds_toArray, List.set_cons_zero, List.set_cons_succ, List.getElem?_cons_zero, List.getElem?_cons_succ, Nat.zero_add, Nat.reduceAdd] at hK ⊢
    simp only [e0, e1] at hK ⊢
    clear e0 e1 f0 f1
    refine OpB.mk' ?_
    go_simp
    refine (HIS.out w' ((Ext.refl W).drew.trans hr)).mono ?_
    rintro e w2 ⟨rfl, hE2⟩
    exact hK.out _ _ rfl hE2
  · refine opF_step ?_
    intro ys l0 h0 w' hr hf K hK
    obtain ⟨f0, f1, -⟩ := hf
    have e0 : ys 0 = _ := f0
    have e1 : ys 3 = _ := f1
    simp only [fill, Act.put, dstO, List.take_succ_cons, List.take_zero, List.setIfInBounds_toArray, List.set_cons_zero, List.set_cons_succ, List.getElem?_cons_zero, List.getElem?_cons_succ, Nat.zero_add, Nat.reduceAdd] at hK ⊢
    simp only [e0, e1] at hK ⊢
    clear e0 e1 f0 f1
    refine OpB.mk' ?_
    go_simp
    refine (HAK.out w' ((Ext.refl W).drew.trans hr)).mono ?_
    rintro e w2 ⟨u, vs, rfl, hR, hE2, hcp⟩
    exact hK.out _ _ ⟨u, vs, rfl, hR.base (Ext.size ((Ext.refl W).drew.trans hr)), hcp⟩ hE2
  · refine opF_step ?_
    intro ys l0 h0 w' hr hf K hK
    obtain ⟨f0, -⟩ := hf
    obtain ⟨u, vs, e0, hR, hcp⟩ := f0
    simp only [fill, Act.put, dstO, List.take_succ_cons, List.take_zero, List.setIfInBounds_toArray, List.set_cons_zero, List.set_cons_succ, List.getElem?_cons_zero, List.getElem?_cons_succ, Nat.zero_add, Nat.reduceAdd] at hK ⊢
    simp only [e0] at hK ⊢
    clear e0
    refine OpB.mk' ?_
    go_simp
    exact hK.out _ _ ⟨u, vs, rfl, hR, hcp⟩ (Ext.refl _)
  · refine opF_step ?_
    intro ys l0 h0 w' hr hf K hK
    obtain ⟨f0, -⟩ := hf
    obtain ⟨u, vs, e0, hR, hcp⟩ := f0
    simp only [fill, Act.put, dstO, List.take_succ_cons, List.take_zero, List.setIfInBounds_toArray, List.set_cons_zero, List.set_cons_succ, List.getElem?_cons_zero, List.getElem?_cons_succ, Nat.zero_add, Nat.reduceAdd] at hK ⊢
    simp only [e0] at hK ⊢
    clear e0
    refine OpB.mk' ?_
    go_simp
    exact hK.out _ _ ⟨vs, hR, hcp⟩ (Ext.refl _)
  · refine opF_step ?_
    intro ys l0 h0 w' hr hf K hK
    obtain ⟨f0, -⟩ := hf
    obtain ⟨u, vs, e0, hR, hcp⟩ := f0
    simp only [fill, Act.put, dstO, List.take_succ_cons, List.take_zero, List.setIfInBounds_toArray, List.set_cons_zero, List.set_cons_succ, List.getElem?_cons_zero, List.getElem?_cons_succ, Nat.zero_add, Nat.reduceAdd] at hK ⊢
    simp only [e0] at hK ⊢
    clear e0
    refine OpB.mk' ?_
    go_simp
    exact hK.out _ _ rfl (Ext.refl _)
  · refine opF_step ?_
    intro ys l0 h0 w' hr hf K hK
    obtain ⟨f0, -⟩ := hf
    simp only [fill, Act.put, dstO, List.take_succ_cons, List.take_zero, List.setIfInBounds_toArray, List.set_cons_zero, List.set_cons_succ, List.getElem?_cons_zero, List.getElem?_cons_succ, Nat.zero_add, Nat.reduceAdd] at hK ⊢
    refine OpB.mk' ?_
    go_simp
    exact hK.out _ _ f0 (Ext.refl _)
  intro ys l0 h0 w2 hr hf hsp
  obtain ⟨f8, f7, -⟩ := hf
  obtain ⟨vs, hR, hcp⟩ := f8
  have e7 : ys 7 = _ := f7
  simp only [fill, Act.put, List.take_succ_cons, List.take_zero, List.setIfInBounds_toArray, List.set_cons_zero, List.set_cons_succ, Nat.zero_add, Nat.reduceAdd, List.drop_succ_cons, List.drop_zero]
  rw [e7]
  clear e7 f7
  generalize ys 8 = u at hR ⊢
  clear hsp
  have hEW : Ext W w2 := (Ext.refl W).drew.trans hr
  have HR := Lib.hid hR
  have HCP := Lib.hid hcp
  have HEW := Lib.hid hEW
  obtain ⟨qt, ct, rfl, hLT⟩ := hR.lists
  have HLT := Lib.hid hLT
  clear hr hEW hR hcp hLT HAK
  by_cases hz0 : z = 0
  case neg =>
    have hg : (z == 0) = false := by simpa using hz0
    have HZ := Lib.hid (show errF C n = z from by unfold errF; rw [← HB.out, HTZ.out.2])
    have HNA := Lib.hid (show topA C n = [] from by unfold topA; rw [HZ.out]; exact if_neg hz0)
    clear hz0
    go_wp2
    go_ret2
    exact ⟨_, by rw [HZ.out]; rfl, by rw [HNA.out]; exact World.ownsRow_nil _ _ _ _, HE.out.trans HEW.out⟩
  subst hz0
  obtain ⟨hC, hbt, hso⟩ := errC_0 HTZ.out.2.symm
  have hTC : T = tabC C := by rw [HTZ.out.1, askT_0 HTZ.out.2.symm]
  have hG : TabG T := by rw [hTC]; exact tabC_ok hC hso
  have hn6 := hG.len
  have HZ := Lib.hid (show errF C n = 0 from by unfold errF; rw [← HB.out, ← HTZ.out.2])
  have HNA := Lib.hid (show topA C n = pickTo (topF T n) T.length from by unfold topA; rw [HZ.out, hTC]; exact if_pos rfl)
  have HRK := Lib.hid (fun j (hj : j < T.length) y (h : Ext w2 y) => rank06 T hG.ok j hj hG.ls (by omega) qt ct y (HLT.out.ext h))
  have HFN := Lib.hid (fun lo hi y (h : Ext w2 y) => topFn06 lo hi n bf y (((HE.out.trans HEW.out).trans h).cell HBF.out))
  obtain ⟨i0, hi, hz0, hz1, hz2⟩ := info_parts info_a
  clear hC hbt hso hTC hG
  go_wp2
  go_loopw [10, 25] (fun u i wr => ∃ j : Nat, j ≤ T.length ∧ i = .int .i64 j ∧ Ext w2 wr ∧ wr.ownsRow w2.heap.size 3 1 u (pickTo (topF T n) j).length (intVs (pickTo (topF T n) j))) (fun _ i _ => T.length - (intOf i).toNat)
  case atStart => exact ⟨0, Nat.zero_le _, rfl, Ext.refl _, World.ownsRow_nil _ _ _ _⟩
  case round =>
    obtain ⟨j, hj, rfl, hE2, hO⟩ := hrel
    have HE2 := Lib.hid hE2
    have HO := Lib.hid hO
    clear hE2 hO
    by_cases hlt : j < T.length
    · have hlt' : (j : Int) < (T.length : Int) := by omega
      have HRJ := Lib.hid (HRK.out j hlt wr HE2.out)
      unfold rkV at HRJ
      have HPS := Lib.hid (pickTo_succ (topF T n) j)
      have hpl := pickTo_len (topF T n) j
      have hfv : topF T n j = decide (((rkHi T j : Nat) : Int) ≤ n) := rfl
      obtain ⟨x1, hx1⟩ : ∃ x : Nat, x = rkLo T j := ⟨_, rfl⟩
      obtain ⟨x2, hx2⟩ : ∃ x : Nat, x = rkHi T j := ⟨_, rfl⟩
      rw [← hx1, ← hx2] at HRJ
      rw [← hx2] at hfv
      obtain ⟨L, hL⟩ : ∃ L, L = pickTo (topF T n) j := ⟨_, rfl⟩
      rw [← hL] at HO HPS hpl
      have HFJ := Lib.hid (fun y (h : Ext w2 y) => HFN.out x1 x2 y h)
      have HFV := Lib.hid hfv
      clear hfv hx1 hx2 hL
      by_cases hb : ((x2 : Nat) : Int) ≤ n
      · rw [decide_eq_true hb] at HFV HFJ
        have HPN := Lib.hid (show pickTo (topF T n) (j + 1) = L ++ [(j : Int)] from by rw [HPS.out, HFV.out]; rfl)
        go_wp2_with (first
          | (go_at_call 55; refine HRJ.out.mono ?_; rintro e w3 ⟨rfl, hE3⟩)
          | (go_at_call 53; refine (HFJ.out _ (HE2.out.trans hE3)).mono ?_; rintro e w4 ⟨rfl, hE4⟩)
          | (at_builtin; refine wpList_append_lies _ rfl (.tmp 33) (.tmp 35) 23 rfl w2.heap.size 3 i0 (.int .i64 0) 1 8 Tryz.underlying23 hi hz0 hz1 hz2 rfl (by decide) _ L.length _ rfl (ownsRow_ext HO.out ((hE3.trans hE4).alloc _)) ⟨w4.heap.size, 0, none⟩ 1 1 [.int .i64 j] rfl rfl (hnewsE (Ext.refl _) rfl) (one_int _) (by decide) ?c3 ?c4 ?c5 (w4.heap.size + 1) (size_alloc _ _) ?_))
        case c3 => unfold maxLen; omega
        case c4 => omega
        case c5 => have := HE2.out.size; have := (hE3.trans hE4).size; first | omega | (rw [size_alloc]; omega)
        intro g4 cap4 w5 hown4 hgr4 hat4 hlt4
        have hE5 : Ext w2 w5 := Below.grown (HE2.out.trans ((hE3.trans hE4).alloc _)) hgr4 (HE2.out.trans ((hE3.trans hE4).alloc _)).size (fun i hi => (HO.out.lt i hi).1)
        have HO5 := Lib.hid hown4
        have HE5 := Lib.hid hE5
        clear hown4 hgr4 hat4 hlt4 hE5 hE3 hE4
        go_wp2
        go_roundw
        case rel => exact ⟨j + 1, by omega, by simp, HE5.out, by rw [HPN.out, intVs_snoc, List.length_append]; exact HO5.out⟩
        case measure => simp [intOf]; omega
      · rw [decide_eq_false hb] at HFV HFJ
        have HPN := Lib.hid (show pickTo (topF T n) (j + 1) = L from by rw [HPS.out, HFV.out]; exact List.append_nil _)
        go_wp2_with (first
          | (go_at_call 55; refine HRJ.out.mono ?_; rintro e w3 ⟨rfl, hE3⟩)
          | (go_at_call 53; refine (HFJ.out _ (HE2.out.trans hE3)).mono ?_; rintro e w4 ⟨rfl, hE4⟩))
        go_roundw
        case rel => exact ⟨j + 1, by omega, by simp, HE2.out.trans (hE3.trans hE4), by rw [HPN.out]; exact ownsRow_ext HO.out (hE3.trans hE4)⟩
        case measure => simp [intOf]; omega
    · obtain rfl : j = T.length := by omega
      have hge : ¬(T.length : Int) < (T.length : Int) := by omega
      rw [← HNA.out] at HO
      go_wp2
      go_ret2
      exact ⟨_, by rw [HZ.out]; rfl, ownsRow_base HO.out (HE.out.trans HEW.out).size, HE.out.trans (HEW.out.trans HE2.out)⟩

set_option maxRecDepth 20000 in
set_option maxHeartbeats 1600000 in
theorem Top06 (C : Ch) (n : Int) (v : Value) (w : World) (hv : ChV w v C) (hs : ChSm C) (hT : TabW w) (hwf : (Lit.int .i64 n).wf = true) :
    Calls Tryz.prog 19 #[v, .int .i64 n] w (RetL (topA C n) (errF C n) w) := by
  have HV := Lib.hid hv
  have HS := Lib.hid hs
  have HT := Lib.hid hT
  have HWF := Lib.hid hwf
  obtain ⟨p, c, q, d, rfl, hp, hq⟩ := hv
  clear hp hq hT hs hwf
  go_enter Tryz.func19, Tryz.ntmps19
  go_upto_region 1 with (fail)
  obtain ⟨s0, hs0⟩ : ∃ s0, s0 = w.heap.size := ⟨_, rfl⟩
  obtain ⟨W, hW⟩ : ∃ W, W = (w.alloc (.cells #[.slice p C.meters.length c, .slice q C.extra.length d, .int .i64 C.frm, .int .i64 C.tto] 25)).alloc (.cells #[.int .i64 n] 3) := ⟨_, rfl⟩
  have m0 : W.heap[s0]? = some (.cells #[.slice p C.meters.length c, .slice q C.extra.length d, .int .i64 C.frm, .int .i64 C.tto] 25) := by rw [hs0, hW, Below.heap_alloc _ _ _ (by rw [size_alloc]; omega)]; exact heap_new _ _
  have m1 : W.heap[s0 + 1]? = some (.cells #[.int .i64 n] 3) := by rw [hs0, hW]; exact heap_new2 _ _ _
  have hE : Ext w W := by rw [hW]; exact Ext.alloc (Ext.alloc (Ext.refl _) _) _
  rw [← hs0, ← hW]
  have HTI := Lib.hid (titlesTop06 C n (s0 + 1) _ W (HV.out.ext hE) HS.out (HT.out.ext hE) HWF.out (cell_of_heap m1 0))
  have d0 := cell_of_heap m0 0
  have d1 := cell_of_heap m0 1
  have d2 := cell_of_heap m0 2
  have d3 := cell_of_heap m0 3
  have e0 := cell_of_heap m1 0
  have HE := Lib.hid hE
  clear hW m0 m1 hE hs0
  go_wp2_with (go_at_call 52; refine HTI.out.mono ?_; rintro e w2 ⟨u, rfl, hO, hE2⟩)
  go_ret2
  exact ⟨_, rfl, ownsRow_base hO HE.out.size, HE.out.trans hE2⟩

set_option maxRecDepth 20000 in
theorem mayFn06 (lo hi f : Int) (b : Nat) (w : World) (hc : w.cell? ⟨b, 0, none⟩ = some (.int .i64 f)) :
    Calls Tryz.prog 54 #[.agg #[.int .i64 lo, .int .i64 hi], .pointer (some ⟨b, 0, none⟩)] w (RetE (.bool (decide (lo ≤ f))) w) := by
  go_enter Tryz.func54, Tryz.ntmps54
  go_upto_region 1 with (fail)
  obtain ⟨s0, hs0⟩ : ∃ s0, s0 = w.heap.size := ⟨_, rfl⟩
  obtain ⟨W, hW⟩ : ∃ W, W = w.alloc (.cells #[.int .i64 lo, .int .i64 hi] 38) := ⟨_, rfl⟩
  have m0 : W.heap[s0]? = some (.cells #[.int .i64 lo, .int .i64 hi] 38) := by rw [hs0, hW]; exact heap_new _ _
  have hE : Ext w W := by rw [hW]; exact Ext.alloc (Ext.refl _) _
  rw [← hs0, ← hW]
  have d0 := cell_of_heap m0 0
  have d1 := cell_of_heap m0 1
  have e0 := hE.cell hc
  have HE := Lib.hid hE
  clear hW m0 hE hs0 hc
  by_cases h : lo ≤ f
  · have HB := Lib.hid (decide_eq_true h)
    go_wp2
    go_ret
    exact RetE.fin HE.out (by rw [HB.out]; rfl)
  · have HB := Lib.hid (decide_eq_false h)
    go_wp2
    go_ret
    exact RetE.fin HE.out (by rw [HB.out]; rfl)

set_option maxRecDepth 20000 in
set_option maxHeartbeats 3200000 in
theorem titlesMay06 (C : Ch) (n : Int) (bf : Nat) (v : Value) (w : World) (hv : ChV w v C) (hs : ChSm C) (hT : TabW w) (hwf : (Lit.int .i64 n).wf = true) (hbf : w.cell? ⟨bf, 0, none⟩ = some (.int .i64 n)) :
    Calls Tryz.prog 52 #[v, .int .i64 n, .func (.func 54) #[] #[.pointer (some ⟨bf, 0, none⟩)]] w (RetL (mayA C n) (errF C n) w) := by
  have HBF := Lib.hid hbf
  clear hbf
  have HV := Lib.hid hv
  have HS := Lib.hid hs
  have HT := Lib.hid hT
  obtain ⟨p, c, q, d, rfl, hp, hq⟩ := hv
  clear hp hq hT hs
  go_enter Tryz.func52, Tryz.ntmps52
  go_upto_region 1 with (fail)
  obtain ⟨s0, hs0⟩ : ∃ s0, s0 = w.heap.size := ⟨_, rfl⟩
  obtain ⟨W, hW⟩ : ∃ W, W = w.alloc (.cells #[.slice p C.meters.length c, .slice q C.extra.length d, .int .i64 C.frm, .int .i64 C.tto] 25) := ⟨_, rfl⟩
  have m0 : W.heap[s0]? = some (.cells #[.slice p C.meters.length c, .slice q C.extra.length d, .int .i64 C.frm, .int .i64 C.tto] 25) := by rw [hs0, hW]; exact heap_new _ _
  have hE : Ext w W := by rw [hW]; exact Ext.alloc (Ext.refl _) _
  rw [← hs0, ← hW]
  have HKC := Lib.hid (fun y (h : Ext W y) => (⟨h.cell (cell_of_heap m0 0), h.cell (cell_of_heap m0 1), h.cell (cell_of_heap m0 2), h.cell (cell_of_heap m0 3)⟩ :
    y.cell? ⟨s0, 0, none⟩ = some (.slice p C.meters.length c) ∧ y.cell? ⟨s0, 1, none⟩ = some (.slice q C.extra.length d) ∧ y.cell? ⟨s0, 2, none⟩ = some (.int .i64 C.frm) ∧ y.cell? ⟨s0, 3, none⟩ = some (.int .i64 C.tto)))
  have HE := Lib.hid hE
  have HVW := Lib.hid (fun y (h : Ext W y) => HV.out.ext (HE.out.trans h))
  obtain ⟨b, hb⟩ : ∃ b, b = isFB C n := ⟨_, rfl⟩
  have HIS := Lib.hid (fun y (h : Ext W y) => (show Calls Tryz.prog 34 #[.agg #[.slice p C.meters.length c, .slice q C.extra.length d, .int .i64 C.frm, .int .i64 C.tto], .int .i64 n] y (RetE (.bool b) y) from by rw [hb]; exact isFirst06 C n _ y (HVW.out y h) hwf (by have := HS.out.nm; omega)))
  have HB := Lib.hid hb
  clear hb hwf
  clear hW m0 hE hs0
  obtain ⟨T, hTT⟩ : ∃ T, T = askT C b := ⟨_, rfl⟩
  obtain ⟨z, hz⟩ : ∃ z, z = errC C b := ⟨_, rfl⟩
  have HAK := Lib.hid (fun y (h : Ext W y) => (show Calls Tryz.prog 31 #[.agg #[.slice p C.meters.length c, .slice q C.extra.length d, .int .i64 C.frm, .int .i64 C.tto], .bool b] y (RetTb T z y) from by rw [hTT, hz]; exact ask06 C b _ y (HV.out.ext (HE.out.trans h)) HS.out (HT.out.ext (HE.out.trans h))))
  have HTZ := Lib.hid (⟨hTT, hz⟩ : T = askT C b ∧ z = errC C b)
  clear hTT hz
  refine wp_region_facts 9 [[], [], [], [1, 2], [0, 3], [4], [5], [5], [6]] [8, 7] Ext (FL [Is (.agg #[.slice p C.meters.length c, .slice q C.extra.length d, .int .i64 C.frm, .int .i64 C.tto]), Is (.agg #[.slice p C.meters.length c, .slice q C.extra.length d, .int .i64 C.frm, .int .i64 C.tto]), Is (.int .i64 n), Is (.bool b), TabF T z W.heap.size, TabF T z W.heap.size, RowF T W.heap.size, Is (.int .i64 z), RowF T W.heap.size]) (by kernel_rfl) (by kernel_rfl) Ext.refl (fun _ _ _ => Ext.trans) (fun _ _ => Ext.size) (FL.mono ⟨Is.mono, Is.mono, Is.mono, Is.mono, TabF.mono, TabF.mono, RowF.mono, Is.mono, RowF.mono, trivial⟩) ⟨?_, ?_, ?_, ?_, ?_, ?_, ?_, ?_, ?_, trivial⟩ ?_
  · refine opF_step ?_
    intro ys l0 h0 w' hr hf K hK
    clear hf
    obtain ⟨j0, j1, j2, j3⟩ := HKC.out w' ((Ext.refl W).drew.trans hr)
    simp only [fill, Act.put, dstO, List.take_succ_cons, List.take_zero, List.setIfInBounds_toArray, List.set_cons_zero, List.set_cons_succ, List.getElem?_cons_zero, Nat.zero_add, Nat.reduceAdd] at hK ⊢
    refine OpB.mk' ?_
    go_simp
    exact hK.out _ _ rfl (Ext.refl _)
  · refine opF_step ?_
    intro ys l0 h0 w' hr hf K hK
    clear hf
    obtain ⟨j0, j1, j2, j3⟩ := HKC.out w' ((Ext.refl W).drew.trans hr)
    simp only [fill, Act.put, dstO, List.take_succ_cons, List.take_zero, List.setIfInBounds_toArray, List.set_cons_zero, List.set_cons_succ, List.getElem?_cons_zero, List.getElem?_cons_succ, Nat.zero_add, Nat.reduceAdd] at hK ⊢
    refine OpB.mk' ?_
    go_simp
    exact hK.out _ _ rfl (Ext.refl _)
  · refine opF_step ?_
    intro ys l0 h0 w' hr hf K hK
    clear hf
    simp only [fill, Act.put, dstO, List.take_succ_cons, List.take_zero, List.setIfInBounds_toArray, List.set_cons_zero, List.set_cons_succ, List.getElem?_cons_zero, List.getElem?_cons_succ, Nat.zero_add, Nat.reduceAdd] at hK ⊢
    refine OpB.mk' ?_
    go_simp
    exact hK.out _ _ rfl (Ext.refl _)
  · refine opF_step ?_
    intro ys l0 h0 w' hr hf K hK
    obtain ⟨f0, f1, -⟩ := hf
    have e0 : ys 1 = _ := f0
    have e1 : ys 2 = _ := f1
    simp only [fill, Act.put, dstO, List.take_succ_cons, List.take_zero, List.setIfInBounds_toArray, List.set_cons_zero, List.set_cons_succ, List.getElem?_cons_zero, List.getElem?_cons_succ, Nat.zero_add, Nat.reduceAdd] at hK ⊢
    simp only [e0, e1] at hK ⊢
    clear e0 e1 f0 f1
    refine OpB.mk' ?_
    go_simp
    refine (HIS.out w' ((Ext.refl W).drew.trans hr)).mono ?_
    rintro e w2 ⟨rfl, hE2⟩
    exact hK.out _ _ rfl hE2
  · refine opF_step ?_
    intro ys l0 h0 w' hr hf K hK
    obtain ⟨f0, f1, -⟩ := hf
    have e0 : ys 0 = _ := f0
    have e1 : ys 3 = _ := f1
    simp only [fill, Act.put, dstO, List.take_succ_cons, List.take_zero, List.setIfInBounds_toArray, List.set_cons_zero, List.set_cons_succ, List.getElem?_cons_zero, List.getElem?_cons_succ, Nat.zero_add, Nat.reduceAdd] at hK ⊢
    simp only [e0, e1] at hK ⊢
    clear e0 e1 f0 f1
    refine OpB.mk' ?_
    go_simp
    refine (HAK.out w' ((Ext.refl W).drew.trans hr)).mono ?_
    rintro e w2 ⟨u, vs, rfl, hR, hE2, hcp⟩
    exact hK.out _ _ ⟨u, vs, rfl, hR.base (Ext.size ((Ext.refl W).drew.trans hr)), hcp⟩ hE2
  · refine opF_step ?_
    intro ys l0 h0 w' hr hf K hK
    obtain ⟨f0, -⟩ := hf
    obtain ⟨u, vs, e0, hR, hcp⟩ := f0
    simp only [fill, Act.put, dstO, List.take_succ_cons, List.take_zero, List.setIfInBounds_toArray, List.set_cons_zero, List.set_cons_succ, List.getElem?_cons_zero, List.getElem?_cons_succ, Nat.zero_add, Nat.reduceAdd] at hK ⊢
    simp only [e0] at hK ⊢
    clear e0
    refine OpB.mk' ?_
    go_simp
    exact hK.out _ _ ⟨u, vs, rfl, hR, hcp⟩ (Ext.refl _)
  · refine opF_step ?_
    intro ys l0 h0 w' hr hf K hK
    obtain ⟨f0, -⟩ := hf
    obtain ⟨u, vs, e0, hR, hcp⟩ := f0
    simp only [fill, Act.put, dstO, List.take_succ_cons, List.take_zero, List.setIfInBounds_toArray, List.set_cons_zero, List.set_cons_succ, List.getElem?_cons_zero, List.getElem?_cons_succ, Nat.zero_add, Nat.reduceAdd] at hK ⊢
    simp only [e0] at hK ⊢
    clear e0
    refine OpB.mk' ?_
    go_simp
    exact hK.out _ _ ⟨vs, hR, hcp⟩ (Ext.refl _)
  · refine opF_step ?_
    intro ys l0 h0 w' hr hf K hK
    obtain ⟨f0, -⟩ := hf
    obtain ⟨u, vs, e0, hR, hcp⟩ := f0
    simp only [fill, Act.put, dstO, List.take_succ_cons, List.take_zero, List.setIfInBounds_toArray, List.set_cons_zero, List.set_cons_succ, List.getElem?_cons_zero, List.getElem?_cons_succ, Nat.zero_add, Nat.reduceAdd] at hK ⊢
    simp only [e0] at hK ⊢
    clear e0
    refine OpB.mk' ?_
    go_simp
    exact hK.out _ _ rfl (Ext.refl _)
  · refine opF_step ?_
    intro ys l0 h0 w' hr hf K hK
    obtain ⟨f0, -⟩ := hf
    simp only [fill, Act.put, dstO, List.take_succ_cons, List.take_zero, List.setIfInBounds_toArray, List.set_cons_zero, List.set_cons_succ, List.getElem?_cons_zero, List.getElem?_cons_succ, Nat.zero_add, Nat.reduceAdd] at hK ⊢
    refine OpB.mk' ?_
    go_simp
    exact hK.out _ _ f0 (Ext.refl _)
  intro ys l0 h0 w2 hr hf hsp
  obtain ⟨f8, f7, -⟩ := hf
  obtain ⟨vs, hR, hcp⟩ := f8
  have e7 : ys 7 = _ := f7
  simp only [fill, Act.put, List.take_succ_cons, List.take_zero, List.setIfInBounds_toArray, List.set_cons_zero, List.set_cons_succ, Nat.zero_add, Nat.reduceAdd, List.drop_succ_cons, List.drop_zero]
  rw [e7]
  clear e7 f7
  generalize ys 8 = u at hR ⊢
  clear hsp
  have hEW : Ext W w2 := (Ext.refl W).drew.trans hr
  have HR := Lib.hid hR
  have HCP := Lib.hid hcp
  have HEW := Lib.hid hEW
  obtain ⟨qt, ct, rfl, hLT⟩ := hR.lists
  have HLT := Lib.hid hLT
  clear hr hEW hR hcp hLT HAK
  by_cases hz0 : z = 0
  case neg =>
    have hg : (z == 0) = false := by simpa using hz0
    have HZ := Lib.hid (show errF C n = z from by unfold errF; rw [← HB.out, HTZ.out.2])
    have HNA := Lib.hid (show mayA C n = [] from by unfold mayA; rw [HZ.out]; exact if_neg hz0)
    clear hz0
    go_wp2
    go_ret2
    exact ⟨_, by rw [HZ.out]; rfl, by rw [HNA.out]; exact World.ownsRow_nil _ _ _ _, HE.out.trans HEW.out⟩
  subst hz0
  obtain ⟨hC, hbt, hso⟩ := errC_0 HTZ.out.2.symm
  have hTC : T = tabC C := by rw [HTZ.out.1, askT_0 HTZ.out.2.symm]
  have hG : TabG T := by rw [hTC]; exact tabC_ok hC hso
  have hn6 := hG.len
  have HZ := Lib.hid (show errF C n = 0 from by unfold errF; rw [← HB.out, ← HTZ.out.2])
  have HNA := Lib.hid (show mayA C n = pickTo (mayF T n) T.length from by unfold mayA; rw [HZ.out, hTC]; exact if_pos rfl)
  have HRK := Lib.hid (fun j (hj : j < T.length) y (h : Ext w2 y) => rank06 T hG.ok j hj hG.ls (by omega) qt ct y (HLT.out.ext h))
  have HFN := Lib.hid (fun lo hi y (h : Ext w2 y) => mayFn06 lo hi n bf y (((HE.out.trans HEW.out).trans h).cell HBF.out))
  obtain ⟨i0, hi, hz0, hz1, hz2⟩ := info_parts info_a
  clear hC hbt hso hTC hG
  go_wp2
  go_loopw [10, 25] (fun u i wr => ∃ j : Nat, j ≤ T.length ∧ i = .int .i64 j ∧ Ext w2 wr ∧ wr.ownsRow w2.heap.size 3 1 u (pickTo (mayF T n) j).length (intVs (pickTo (mayF T n) j))) (fun _ i _ => T.length - (intOf i).toNat)
  case atStart => exact ⟨0, Nat.zero_le _, rfl, Ext.refl _, World.ownsRow_nil _ _ _ _⟩
  case round =>
    obtain ⟨j, hj, rfl, hE2, hO⟩ := hrel
    have HE2 := Lib.hid hE2
    have HO := Lib.hid hO
    clear hE2 hO
    by_cases hlt : j < T.length
    · have hlt' : (j : Int) < (T.length : Int) := by omega
      have HRJ := Lib.hid (HRK.out j hlt wr HE2.out)
      unfold rkV at HRJ
      have HPS := Lib.hid (pickTo_succ (mayF T n) j)
      have hpl := pickTo_len (mayF T n) j
      have hfv : mayF T n j = decide (((rkLo T j : Nat) : Int) ≤ n) := rfl
      obtain ⟨x1, hx1⟩ : ∃ x : Nat, x = rkLo T j := ⟨_, rfl⟩
      obtain ⟨x2, hx2⟩ : ∃ x : Nat, x = rkHi T j := ⟨_, rfl⟩
      rw [← hx1, ← hx2] at HRJ
      rw [← hx1] at hfv
      obtain ⟨L, hL⟩ : ∃ L, L = pickTo (mayF T n) j := ⟨_, rfl⟩
      rw [← hL] at HO HPS hpl
      have HFJ := Lib.hid (fun y (h : Ext w2 y) => HFN.out x1 x2 y h)
      have HFV := Lib.hid hfv
      clear hfv hx1 hx2 hL
      by_cases hb : ((x1 : Nat) : Int) ≤ n
      · rw [decide_eq_true hb] at HFV HFJ
        have HPN := Lib.hid (show pickTo (mayF T n) (j + 1) = L ++ [(j : Int)] from by rw [HPS.out, HFV.out]; rfl)
        go_wp2_with (first
          | (go_at_call 55; refine HRJ.out.mono ?_; rintro e w3 ⟨rfl, hE3⟩)
          | (go_at_call 54; refine (HFJ.out _ (HE2.out.trans hE3)).mono ?_; rintro e w4 ⟨rfl, hE4⟩)
          | (at_builtin; refine wpList_append_lies _ rfl (.tmp 33) (.tmp 35) 23 rfl w2.heap.size 3 i0 (.int .i64 0) 1 8 Tryz.underlying23 hi hz0 hz1 hz2 rfl (by decide) _ L.length _ rfl (ownsRow_ext HO.out ((hE3.trans hE4).alloc _)) ⟨w4.heap.size, 0, none⟩ 1 1 [.int .i64 j] rfl rfl (hnewsE (Ext.refl _) rfl) (one_int _) (by decide) ?c3 ?c4 ?c5 (w4.heap.size + 1) (size_alloc _ _) ?_))
        case c3 => unfold maxLen; omega
        case c4 => omega
        case c5 => have := HE2.out.size; have := (hE3.trans hE4).size; first | omega | (rw [size_alloc]; omega)
        intro g4 cap4 w5 hown4 hgr4 hat4 hlt4
        have hE5 : Ext w2 w5 := Below.grown (HE2.out.trans ((hE3.trans hE4).alloc _)) hgr4 (HE2.out.trans ((hE3.trans hE4).alloc _)).size (fun i hi => (HO.out.lt i hi).1)
        have HO5 := Lib.hid hown4
        have HE5 := Lib.hid hE5
        clear hown4 hgr4 hat4 hlt4 hE5 hE3 hE4
        go_wp2
        go_roundw
        case rel => exact ⟨j + 1, by omega, by simp, HE5.out, by rw [HPN.out, intVs_snoc, List.length_append]; exact HO5.out⟩
        case measure => simp [intOf]; omega
      · rw [decide_eq_false hb] at HFV HFJ
        have HPN := Lib.hid (show pickTo (mayF T n) (j + 1) = L from by rw [HPS.out, HFV.out]; exact List.append_nil _)
        go_wp2_with (first
          | (go_at_call 55; refine HRJ.out.mono ?_; rintro e w3 ⟨rfl, hE3⟩)
          | (go_at_call 54; refine (HFJ.out _ (HE2.out.trans hE3)).mono ?_; rintro e w4 ⟨rfl, hE4⟩))
        go_roundw
        case rel => exact ⟨j + 1, by omega, by simp, HE2.out.trans (hE3.trans hE4), by rw [HPN.out]; exact ownsRow_ext HO.out (hE3.trans hE4)⟩
        case measure => simp [intOf]; omega
    · obtain rfl : j = T.length := by omega
      have hge : ¬(T.length : Int) < (T.length : Int) := by omega
      rw [← HNA.out] at HO
      go_wp2
      go_ret2
      exact ⟨_, by rw [HZ.out]; rfl, ownsRow_base HO.out (HE.out.trans HEW.out).size, HE.out.trans (HEW.out.trans HE2.out)⟩

set_option maxRecDepth 20000 in
set_option maxHeartbeats 1600000 in
theorem May06 (C : Ch) (n : Int) (v : Value) (w : World) (hv : ChV w v C) (hs : ChSm C) (hT : TabW w) (hwf : (Lit.int .i64 n).wf = true) :
    Calls Tryz.prog 20 #[v, .int .i64 n] w (RetL (mayA C n) (errF C n) w) := by
  have HV := Lib.hid hv
  have HS := Lib.hid hs
  have HT := Lib.hid hT
  have HWF := Lib.hid hwf
  obtain ⟨p, c, q, d, rfl, hp, hq⟩ := hv
  clear hp hq hT hs hwf
  go_enter Tryz.func20, Tryz.ntmps20
  go_upto_region 1 with (fail)
  obtain ⟨s0, hs0⟩ : ∃ s0, s0 = w.heap.size := ⟨_, rfl⟩
  obtain ⟨W, hW⟩ : ∃ W, W = (w.alloc (.cells #[.slice p C.meters.length c, .slice q C.extra.length d, .int .i64 C.frm, .int .i64 C.tto] 25)).alloc (.cells #[.int .i64 n] 3) := ⟨_, rfl⟩
  have m0 : W.heap[s0]? = some (.cells #[.slice p C.meters.length c, .slice q C.extra.length d, .int .i64 C.frm, .int .i64 C.tto] 25) := by rw [hs0, hW, Below.heap_alloc _ _ _ (by rw [size_alloc]; omega)]; exact heap_new _ _
  have m1 : W.heap[s0 + 1]? = some (.cells #[.int .i64 n] 3) := by rw [hs0, hW]; exact heap_new2 _ _ _
  have hE : Ext w W := by rw [hW]; exact Ext.alloc (Ext.alloc (Ext.refl _) _) _
  rw [← hs0, ← hW]
  have HTI := Lib.hid (titlesMay06 C n (s0 + 1) _ W (HV.out.ext hE) HS.out (HT.out.ext hE) HWF.out (cell_of_heap m1 0))
  have d0 := cell_of_heap m0 0
  have d1 := cell_of_heap m0 1
  have d2 := cell_of_heap m0 2
  have d3 := cell_of_heap m0 3
  have e0 := cell_of_heap m1 0
  have HE := Lib.hid hE
  clear hW m0 m1 hE hs0
  go_wp2_with (go_at_call 52; refine HTI.out.mono ?_; rintro e w2 ⟨u, rfl, hO, hE2⟩)
  go_ret2
  exact ⟨_, rfl, ownsRow_base hO HE.out.size, HE.out.trans hE2⟩
end Go.Proofs.YtppncdbhebgcaaaGreatDoor
namespace Go.Proofs.YtppncdbhebgcaaaGreatDoor
open Go.RowKit

theorem IntsNe.ups {g : Nat} {w w' : World} {q : Option Addr} {l : List Int} (h : IntsNe (some g) w q l) (hU : Ups g w w') : IntsNe (some g) w' q l := by
  intro j hj
  obtain ⟨b, o, hq, hn, hc⟩ := h j hj
  exact ⟨b, o, hq, hn, hU.cell hc (fun e => hn (by rw [e]))⟩
/-- a table whose rows lie in other blocks than its own -/
def PinAt (w : World) (B gt n cap : Nat) (L : Tab) : Prop :=
  L.length = n ∧ ∃ vs, w.ownsRow B 23 1 (.slice (some ⟨gt, 0, none⟩) n cap) n vs ∧ ∀ i (h : i < L.length), ∃ p c, L[i].length ≤ c ∧ vs[i]? = some (.slice p L[i].length c) ∧ IntsNe (some gt) w p L[i]
section
variable {w w' : World} {B gt n cap : Nat} {L : Tab}
theorem PinAt.ext (h : PinAt w B gt n cap L) (hE : Ext w w') : PinAt w' B gt n cap L := by
  obtain ⟨h1, vs, h2, h3⟩ := h
  exact ⟨h1, vs, ownsRow_ext h2 hE, fun i hi => by obtain ⟨p, c, k1, k2, k3⟩ := h3 i hi; exact ⟨p, c, k1, k2, k3.ext hE⟩⟩
theorem PinAt.row (h : PinAt w B gt n cap L) {i : Nat} (hi : i < n) : ∃ p c, (rowT L i).length ≤ c ∧ w.cell? ⟨gt, i, none⟩ = some (.slice p (rowT L i).length c) ∧ IntsNe (some gt) w p (rowT L i) ∧ w.frozen? ⟨gt, i, none⟩ = false := by
  obtain ⟨h1, vs, h2, h3⟩ := h
  obtain ⟨p, c, k1, k2, k3⟩ := h3 i (by omega)
  obtain ⟨b, cc, he, hc⟩ := ownsRow_at h2 i hi
  cases he
  rw [k2] at hc
  rw [rowT_get (by omega)]
  refine ⟨p, c, k1, hc, k3, ?_⟩
  rcases h2.2 with ⟨hv, -⟩ | ⟨g', cap, cur, hv, -, hg, -⟩
  · cases hv
  · cases hv; exact cell_frozen hg i
theorem PinAt.lists (h : PinAt w B gt n cap L) : ListsAt w (some ⟨gt, 0, none⟩) L := by
  intro i hi
  obtain ⟨p, c, -, hc, hn, -⟩ := h.row (i := i) (by have := h.1; omega)
  rw [rowT_get hi] at hc hn
  exact ⟨gt, 0, _, rfl, by rw [Nat.zero_add]; exact hc, p, c, rfl, hn.ints⟩
theorem PinAt.set (h : PinAt w B gt n cap L) {i : Nat} (hi : i < n) {p : Option Addr} {r : List Int} {c : Nat} (hn : IntsNe (some gt) w p r) (hc : r.length ≤ c) : PinAt (w.setCell ⟨gt, i, none⟩ (.slice p r.length c)) B gt n cap (L.set i r) := by
  obtain ⟨h1, vs, h2, h3⟩ := h
  have hU : Ups gt w (w.setCell ⟨gt, i, none⟩ (.slice p r.length c)) := (Ups.refl _ _).setCell _ _
  refine ⟨by rw [List.length_set]; exact h1, _, ownsRow_setV h2, fun j hj => ?_⟩
  rw [List.length_set] at hj
  by_cases e : i = j
  · subst e
    have hvl : i < vs.length := by have := h2.1; omega
    rw [List.getElem_set_self]
    exact ⟨p, c, hc, List.getElem?_set_self hvl, hn.ups hU⟩
  · obtain ⟨p', c', k1, k2, k3⟩ := h3 j hj
    rw [List.getElem_set_ne e]
    exact ⟨p', c', k1, by rw [List.getElem?_set_ne e]; exact k2, k3.ups hU⟩
end
end Go.Proofs.YtppncdbhebgcaaaGreatDoor
namespace Go.Proofs.YtppncdbhebgcaaaGreatDoor
open Go.RowKit

open Classical in
noncomputable def needV (T : Tab) (i : Nat) (f : Int) : Int := if h : ∃ a, IsNeed T i f a then h.choose else 0
theorem needV_eq {T : Tab} {i : Nat} {f a : Int} (h : IsNeed T i f a) : needV T i f = a := by
  unfold needV
  have he : ∃ a, IsNeed T i f a := ⟨a, h⟩
  rw [dif_pos he]
  exact he.choose_spec.uniq h
noncomputable def errN (C : Ch) (t f : Int) : Int := errC C (isTB C t && isFB C f)
noncomputable def needsA (C : Ch) (t f : Int) : Int := okN (errN C t f) (needV (tabC C) t.toNat f)
theorem errC_f (C : Ch) : ¬errC C false = 0 := by
  unfold errC
  split
  · rw [if_neg (by decide)]; decide
  · decide
theorem want_bd {T : Tab} (hG : TabG T) (i : Nat) {k : Nat} (hk : k ≤ T.length) : ∀ v ∈ wantTo T i k, 0 ≤ v ∧ v ≤ 2500 := by
  intro v hv
  obtain ⟨j, hj, rfl⟩ := List.mem_map.1 hv
  have hj' := List.mem_range.1 (List.mem_filter.1 hj).1
  have h1 := hi_mem hG.ok (show j < T.length by omega)
  rw [rowT_get (show j < T.length by omega)] at h1
  have := hG.bd _ (List.getElem_mem (show j < T.length by omega)) _ h1
  split <;> omega
theorem lo_bd {T : Tab} (hG : TabG T) {j : Nat} (hj : j < T.length) : 0 ≤ loT T j ∧ loT T j ≤ 2499 := by
  have h1 := lo_mem hG.ok hj
  rw [rowT_get hj] at h1
  exact hG.bd _ (List.getElem_mem hj) _ h1
theorem hi_bd {T : Tab} (hG : TabG T) {j : Nat} (hj : j < T.length) : 0 ≤ hiT T j ∧ hiT T j ≤ 2499 := by
  have h1 := hi_mem hG.ok hj
  rw [rowT_get hj] at h1
  exact hG.bd _ (List.getElem_mem hj) _ h1

set_option maxRecDepth 20000 in
set_option maxHeartbeats 6400000 in
theorem Needs06 (C : Ch) (t f : Int) (v : Value) (w : World) (hv : ChV w v C) (hs : ChSm C) (hT : TabW w) (hwf : (Lit.int .i64 f).wf = true) :
    Calls Tryz.prog 24 #[v, .int .i64 t, .int .i64 f] w (RetE (.tuple #[.int .i64 (needsA C t f), .int .i64 (errN C t f)]) w) := by
  have HV := Lib.hid hv
  have HS := Lib.hid hs
  have HT := Lib.hid hT
  obtain ⟨p, c, q, d, rfl, hp, hq⟩ := hv
  clear hp hq hT hs
  go_enter Tryz.func24, Tryz.ntmps24
  go_upto_region 1 with (fail)
  obtain ⟨s0, hs0⟩ : ∃ s0, s0 = w.heap.size := ⟨_, rfl⟩
  obtain ⟨W, hW⟩ : ∃ W, W = w.alloc (.cells #[.slice p C.meters.length c, .slice q C.extra.length d, .int .i64 C.frm, .int .i64 C.tto] 25) := ⟨_, rfl⟩
  have m0 : W.heap[s0]? = some (.cells #[.slice p C.meters.length c, .slice q C.extra.length d, .int .i64 C.frm, .int .i64 C.tto] 25) := by rw [hs0, hW]; exact heap_new _ _
  have hE : Ext w W := by rw [hW]; exact Ext.alloc (Ext.refl _) _
  rw [← hs0, ← hW]
  have HKC := Lib.hid (fun y (h : Ext W y) => (⟨h.cell (cell_of_heap m0 0), h.cell (cell_of_heap m0 1), h.cell (cell_of_heap m0 2), h.cell (cell_of_heap m0 3)⟩ :
    y.cell? ⟨s0, 0, none⟩ = some (.slice p C.meters.length c) ∧ y.cell? ⟨s0, 1, none⟩ = some (.slice q C.extra.length d) ∧ y.cell? ⟨s0, 2, none⟩ = some (.int .i64 C.frm) ∧ y.cell? ⟨s0, 3, none⟩ = some (.int .i64 C.tto)))
  have HE := Lib.hid hE
  have HVW := Lib.hid (fun y (h : Ext W y) => HV.out.ext (HE.out.trans h))
  obtain ⟨bt, hbt⟩ : ∃ b, b = isTB C t := ⟨_, rfl⟩
  obtain ⟨bf, hbf⟩ : ∃ b, b = isFB C f := ⟨_, rfl⟩
  have HIS := Lib.hid (fun y (h : Ext W y) => (show Calls Tryz.prog 32 #[.agg #[.slice p C.meters.length c, .slice q C.extra.length d, .int .i64 C.frm, .int .i64 C.tto], .int .i64 t] y (RetE (.bool bt) y) from by rw [hbt]; exact isTitle06 C t _ y (HVW.out y h)))
  have HIF := Lib.hid (fun y (h : Ext W y) => (show Calls Tryz.prog 34 #[.agg #[.slice p C.meters.length c, .slice q C.extra.length d, .int .i64 C.frm, .int .i64 C.tto], .int .i64 f] y (RetE (.bool bf) y) from by rw [hbf]; exact isFirst06 C f _ y (HVW.out y h) hwf (by have := HS.out.nm; omega)))
  have HB := Lib.hid (⟨hbt, hbf⟩ : bt = isTB C t ∧ bf = isFB C f)
  clear hW m0 hE hs0 hbt hbf hwf
  cases bt
  case false =>
    obtain ⟨T, hTT⟩ : ∃ T, T = askT C false := ⟨_, rfl⟩
    obtain ⟨z, hz⟩ : ∃ z, z = errC C false := ⟨_, rfl⟩
    have HAK := Lib.hid (fun y (h : Ext W y) => (show Calls Tryz.prog 31 #[.agg #[.slice p C.meters.length c, .slice q C.extra.length d, .int .i64 C.frm, .int .i64 C.tto], .bool false] y (RetTb T z y) from by rw [hTT, hz]; exact ask06 C false _ y (HV.out.ext (HE.out.trans h)) HS.out (HT.out.ext (HE.out.trans h))))
    have HTZ := Lib.hid (⟨hTT, hz⟩ : T = askT C false ∧ z = errC C false)
    clear hTT hz
    refine wp_region_facts 14 [[], [], [], [1, 2], [3], [4], [4], [5, 6, 4], [4, 7], [0, 8], [9], [10], [10], [11]] [13, 12] Ext (FL [Is (.agg #[.slice p C.meters.length c, .slice q C.extra.length d, .int .i64 C.frm, .int .i64 C.tto]), Is (.agg #[.slice p C.meters.length c, .slice q C.extra.length d, .int .i64 C.frm, .int .i64 C.tto]), Is (.int .i64 t), Is (.bool false), Is (.bool false), Is (undef), Is (undef), Is (undef), Is (.bool false), TabF T z W.heap.size, TabF T z W.heap.size, RowF T W.heap.size, Is (.int .i64 z), RowF T W.heap.size]) (by kernel_rfl) (by kernel_rfl) Ext.refl (fun _ _ _ => Ext.trans) (fun _ _ => Ext.size) (FL.mono ⟨Is.mono, Is.mono, Is.mono, Is.mono, Is.mono, Is.mono, Is.mono, Is.mono, Is.mono, TabF.mono, TabF.mono, RowF.mono, Is.mono, RowF.mono, trivial⟩) ⟨?_, ?_, ?_, ?_, ?_, ?_, ?_, ?_, ?_, ?_, ?_, ?_, ?_, ?_, trivial⟩ ?_
    · refine opF_step ?_
      intro ys l0 h0 w' hr hf K hK
      clear hf
      obtain ⟨j0, j1, j2, j3⟩ := HKC.out w' ((Ext.refl W).drew.trans hr)
      simp only [fill, Act.put, dstO, List.take_succ_cons, List.take_zero, List.setIfInBounds_toArray, List.set_cons_zero, List.set_cons_succ, List.getElem?_cons_zero, Nat.zero_add, Nat.reduceAdd] at hK ⊢
      refine OpB.mk' ?_
      go_simp
      exact hK.out _ _ rfl (Ext.refl _)
    · refine opF_step ?_
      intro ys l0 h0 w' hr hf K hK
      clear hf
      obtain ⟨j0, j1, j2, j3⟩ := HKC.out w' ((Ext.refl W).drew.trans hr)
      simp only [fill, Act.put, dstO, List.take_succ_cons, List.take_zero, List.setIfInBounds_toArray, List.set_cons_zero, List.set_cons_succ, List.getElem?_cons_zero, List.getElem?_cons_succ, Nat.zero_add, Nat.reduceAdd] at hK ⊢
      refine OpB.mk' ?_
      go_simp
      exact hK.out _ _ rfl (Ext.refl _)
    · refine opF_step ?_
      intro ys l0 h0 w' hr hf K hK
      clear hf
      simp only [fill, Act.put, dstO, List.take_succ_cons, List.take_zero, List.setIfInBounds_toArray, List.set_cons_zero, List.set_cons_succ, List.getElem?_cons_zero, List.getElem?_cons_succ, Nat.zero_add, Nat.reduceAdd] at hK ⊢
      refine OpB.mk' ?_
      go_simp
      exact hK.out _ _ rfl (Ext.refl _)
    · refine opF_step ?_
      intro ys l0 h0 w' hr hf K hK
      obtain ⟨f0, f1, -⟩ := hf
      have e0 : ys 1 = _ := f0
      have e1 : ys 2 = _ := f1
      simp only [fill, Act.put, dstO, List.take_succ_cons, List.take_zero, List.setIfInBounds_toArray, List.set_cons_zero, List.set_cons_succ, List.getElem?_cons_zero, List.getElem?_cons_succ, Nat.zero_add, Nat.reduceAdd] at hK ⊢
      simp only [e0, e1] at hK ⊢
      clear e0 e1 f0 f1
      refine OpB.mk' ?_
      go_simp
      refine (HIS.out w' ((Ext.refl W).drew.trans hr)).mono ?_
      rintro e w2 ⟨rfl, hE2⟩
      exact hK.out _ _ rfl hE2
    · refine opF_step ?_
      intro ys l0 h0 w' hr hf K hK
      obtain ⟨f0, -⟩ := hf
      have e0 : ys 3 = _ := f0
      simp only [fill, Act.put, dstO, List.take_succ_cons, List.take_zero, List.setIfInBounds_toArray, List.set_cons_zero, List.set_cons_succ, List.getElem?_cons_zero, List.getElem?_cons_succ, Nat.zero_add, Nat.reduceAdd] at hK ⊢
      simp only [e0] at hK ⊢
      clear e0 f0
      refine OpB.mk' ?_
      go_simp
      exact hK.out _ _ rfl (Ext.refl _)
    · refine opF_step ?_
      intro ys l0 h0 w' hr hf K hK
      obtain ⟨f0, -⟩ := hf
      have e0 : ys 4 = _ := f0
      simp only [fill, Act.put, dstO, List.take_succ_cons, List.take_zero, List.setIfInBounds_toArray, List.set_cons_zero, List.set_cons_succ, List.getElem?_cons_zero, List.getElem?_cons_succ, Nat.zero_add, Nat.reduceAdd] at hK ⊢
      simp only [e0] at hK ⊢
      clear e0 f0
      refine OpB.mk' ?_
      go_simp
      exact hK.out _ _ rfl (Ext.refl _)
    · refine opF_step ?_
      intro ys l0 h0 w' hr hf K hK
      obtain ⟨f0, -⟩ := hf
      have e0 : ys 4 = _ := f0
      simp only [fill, Act.put, dstO, List.take_succ_cons, List.take_zero, List.setIfInBounds_toArray, List.set_cons_zero, List.set_cons_succ, List.getElem?_cons_zero, List.getElem?_cons_succ, Nat.zero_add, Nat.reduceAdd] at hK ⊢
      simp only [e0] at hK ⊢
      clear e0 f0
      refine OpB.mk' ?_
      go_simp
      exact hK.out _ _ rfl (Ext.refl _)
    · refine opF_step ?_
      intro ys l0 h0 w' hr hf K hK
      obtain ⟨f0, f1, f2, -⟩ := hf
      have e0 : ys 5 = _ := f0
      have e1 : ys 6 = _ := f1
      have e2 : ys 4 = _ := f2
      simp only [fill, Act.put, dstO, List.take_succ_cons, List.take_zero, List.setIfInBounds_toArray, List.set_cons_zero, List.set_cons_succ, List.getElem?_cons_zero, List.getElem?_cons_succ, Nat.zero_add, Nat.reduceAdd] at hK ⊢
      simp only [e0, e1, e2] at hK ⊢
      clear e0 e1 e2 f0 f1 f2
      refine OpB.mk' ?_
      go_simp
      exact hK.out _ _ rfl (Ext.refl _)
    · refine opF_step ?_
      intro ys l0 h0 w' hr hf K hK
      obtain ⟨f0, f1, -⟩ := hf
      have e0 : ys 4 = _ := f0
      have e1 : ys 7 = _ := f1
      simp only [fill, Act.put, dstO, List.take_succ_cons, List.take_zero, List.setIfInBounds_toArray, List.set_cons_zero, List.set_cons_succ, List.getElem?_cons_zero, List.getElem?_cons_succ, Nat.zero_add, Nat.reduceAdd] at hK ⊢
      simp only [e0, e1] at hK ⊢
      clear e0 e1 f0 f1
      refine OpB.mk' ?_
      go_simp
      exact hK.out _ _ rfl (Ext.refl _)
    · refine opF_step ?_
      intro ys l0 h0 w' hr hf K hK
      obtain ⟨f0, f1, -⟩ := hf
      have e0 : ys 0 = _ := f0
      have e1 : ys 8 = _ := f1
      simp only [fill, Act.put, dstO, List.take_succ_cons, List.take_zero, List.setIfInBounds_toArray, List.set_cons_zero, List.set_cons_succ, List.getElem?_cons_zero, List.getElem?_cons_succ, Nat.zero_add, Nat.reduceAdd] at hK ⊢
      simp only [e0, e1] at hK ⊢
      clear e0 e1 f0 f1
      refine OpB.mk' ?_
      go_simp
      refine (HAK.out w' ((Ext.refl W).drew.trans hr)).mono ?_
      rintro e w2 ⟨u, vs, rfl, hR, hE2, hcp⟩
      exact hK.out _ _ ⟨u, vs, rfl, hR.base (Ext.size ((Ext.refl W).drew.trans hr)), hcp⟩ hE2
    · refine opF_step ?_
      intro ys l0 h0 w' hr hf K hK
      obtain ⟨f0, -⟩ := hf
      obtain ⟨u, vs, e0, hR, hcp⟩ := f0
      simp only [fill, Act.put, dstO, List.take_succ_cons, List.take_zero, List.setIfInBounds_toArray, List.set_cons_zero, List.set_cons_succ, List.getElem?_cons_zero, List.getElem?_cons_succ, Nat.zero_add, Nat.reduceAdd] at hK ⊢
      simp only [e0] at hK ⊢
      clear e0
      refine OpB.mk' ?_
      go_simp
      exact hK.out _ _ ⟨u, vs, rfl, hR, hcp⟩ (Ext.refl _)
    · refine opF_step ?_
      intro ys l0 h0 w' hr hf K hK
      obtain ⟨f0, -⟩ := hf
      obtain ⟨u, vs, e0, hR, hcp⟩ := f0
      simp only [fill, Act.put, dstO, List.take_succ_cons, List.take_zero, List.setIfInBounds_toArray, List.set_cons_zero, List.set_cons_succ, List.getElem?_cons_zero, List.getElem?_cons_succ, Nat.zero_add, Nat.reduceAdd] at hK ⊢
      simp only [e0] at hK ⊢
      clear e0
      refine OpB.mk' ?_
      go_simp
      exact hK.out _ _ ⟨vs, hR, hcp⟩ (Ext.refl _)
    · refine opF_step ?_
      intro ys l0 h0 w' hr hf K hK
      obtain ⟨f0, -⟩ := hf
      obtain ⟨u, vs, e0, hR, hcp⟩ := f0
      simp only [fill, Act.put, dstO, List.take_succ_cons, List.take_zero, List.setIfInBounds_toArray, List.set_cons_zero, List.set_cons_succ, List.getElem?_cons_zero, List.getElem?_cons_succ, Nat.zero_add, Nat.reduceAdd] at hK ⊢
      simp only [e0] at hK ⊢
      clear e0
      refine OpB.mk' ?_
      go_simp
      exact hK.out _ _ rfl (Ext.refl _)
    · refine opF_step ?_
      intro ys l0 h0 w' hr hf K hK
      obtain ⟨f0, -⟩ := hf
      simp only [fill, Act.put, dstO, List.take_succ_cons, List.take_zero, List.setIfInBounds_toArray, List.set_cons_zero, List.set_cons_succ, List.getElem?_cons_zero, List.getElem?_cons_succ, Nat.zero_add, Nat.reduceAdd] at hK ⊢
      refine OpB.mk' ?_
      go_simp
      exact hK.out _ _ f0 (Ext.refl _)
    intro ys l0 h0 w2 hr hf hsp
    obtain ⟨f13, f12, -⟩ := hf
    obtain ⟨vs, hR, hcp⟩ := f13
    have e12 : ys 12 = _ := f12
    simp only [fill, Act.put, List.take_succ_cons, List.take_zero, List.setIfInBounds_toArray, List.set_cons_zero, List.set_cons_succ, Nat.zero_add, Nat.reduceAdd, List.drop_succ_cons, List.drop_zero]
    rw [e12]
    clear e12 f12
    generalize ys 13 = u at hR ⊢
    clear hsp
    have hEW : Ext W w2 := (Ext.refl W).drew.trans hr
    have HR := Lib.hid hR
    have HEW := Lib.hid hEW
    obtain ⟨qt, ct, rfl, hLT⟩ := hR.lists
    have HLT := Lib.hid hLT
    clear hr hEW hR hcp hLT HAK
    have hz0 : ¬z = 0 := by rw [HTZ.out.2]; exact errC_f C
    have hg : (z == 0) = false := by simpa using hz0
    have HZ := Lib.hid (show errN C t f = z from by unfold errN; rw [← HB.out.1, ← HB.out.2, HTZ.out.2]; rfl)
    have HNA := Lib.hid (show needsA C t f = 0 from by unfold needsA; rw [HZ.out, okN_ne hz0])
    clear hz0
    go_wp2
    go_ret2
    exact RetE.fin (HE.out.trans HEW.out) (by rw [HNA.out, HZ.out]; rfl)
  case true =>
    obtain ⟨T, hTT⟩ : ∃ T, T = askT C bf := ⟨_, rfl⟩
    obtain ⟨z, hz⟩ : ∃ z, z = errC C bf := ⟨_, rfl⟩
    have HAK := Lib.hid (fun y (h : Ext W y) => (show Calls Tryz.prog 31 #[.agg #[.slice p C.meters.length c, .slice q C.extra.length d, .int .i64 C.frm, .int .i64 C.tto], .bool bf] y (RetTb T z y) from by rw [hTT, hz]; exact ask06 C bf _ y (HV.out.ext (HE.out.trans h)) HS.out (HT.out.ext (HE.out.trans h))))
    have HTZ := Lib.hid (⟨hTT, hz⟩ : T = askT C bf ∧ z = errC C bf)
    clear hTT hz
    refine wp_region_facts 14 [[], [], [], [1, 2], [3], [4], [4], [5, 6, 4], [4, 7], [0, 8], [9], [10], [10], [11]] [13, 12] Ext (FL [Is (.agg #[.slice p C.meters.length c, .slice q C.extra.length d, .int .i64 C.frm, .int .i64 C.tto]), Is (.agg #[.slice p C.meters.length c, .slice q C.extra.length d, .int .i64 C.frm, .int .i64 C.tto]), Is (.int .i64 t), Is (.bool true), Is (.bool true), Is (.agg #[.slice p C.meters.length c, .slice q C.extra.length d, .int .i64 C.frm, .int .i64 C.tto]), Is (.int .i64 f), Is (.bool bf), Is (.bool bf), TabF T z W.heap.size, TabF T z W.heap.size, RowF T W.heap.size, Is (.int .i64 z), RowF T W.heap.size]) (by kernel_rfl) (by kernel_rfl) Ext.refl (fun _ _ _ => Ext.trans) (fun _ _ => Ext.size) (FL.mono ⟨Is.mono, Is.mono, Is.mono, Is.mono, Is.mono, Is.mono, Is.mono, Is.mono, Is.mono, TabF.mono, TabF.mono, RowF.mono, Is.mono, RowF.mono, trivial⟩) ⟨?_, ?_, ?_, ?_, ?_, ?_, ?_, ?_, ?_, ?_, ?_, ?_, ?_, ?_, trivial⟩ ?_
    · refine opF_step ?_
      intro ys l0 h0 w' hr hf K hK
      clear hf
      obtain ⟨j0, j1, j2, j3⟩ := HKC.out w' ((Ext.refl W).drew.trans hr)
      simp only [fill, Act.put, dstO, List.take_succ_cons, List.take_zero, List.setIfInBounds_toArray, List.set_cons_zero, List.set_cons_succ, List.getElem?_cons_zero, Nat.zero_add, Nat.reduceAdd] at hK ⊢
      refine OpB.mk' ?_
      go_simp
      exact hK.out _ _ rfl (Ext.refl _)
    · refine opF_step ?_
      intro ys l0 h0 w' hr hf K hK
      clear hf
      obtain ⟨j0, j1, j2, j3⟩ := HKC.out w' ((Ext.refl W).drew.trans hr)
      simp only [fill, Act.put, dstO, List.take_succ_cons, List.take_zero, List.setIfInBounds_toArray, List.set_cons_zero, List.set_cons_succ, List.getElem?_cons_zero, List.getElem?_cons_succ, Nat.zero_add, Nat.reduceAdd] at hK ⊢
      refine OpB.mk' ?_
      go_simp
      exact hK.out _ _ rfl (Ext.refl _)
    · refine opF_step ?_
      intro ys l0 h0 w' hr hf K hK
      clear hf
      simp only [fill, Act.put, dstO, List.take_succ_cons, List.take_zero, List.setIfInBounds_toArray, List.set_cons_zero, List.set_cons_succ, List.getElem?_cons_zero, List.getElem?_cons_succ, Nat.zero_add, Nat.reduceAdd] at hK ⊢
      refine OpB.mk' ?_
      go_simp
      exact hK.out _ _ rfl (Ext.refl _)
    · refine opF_step ?_
      intro ys l0 h0 w' hr hf K hK
      obtain ⟨f0, f1, -⟩ := hf
      have e0 : ys 1 = _ := f0
      have e1 : ys 2 = _ := f1
      simp only [fill, Act.put, dstO, List.take_succ_cons, List.take_zero, List.setIfInBounds_toArray, List.set_cons_zero, List.set_cons_succ, List.getElem?_cons_zero, List.getElem?_cons_succ, Nat.zero_add, Nat.reduceAdd] at hK ⊢
      simp only [e0, e1] at hK ⊢
      clear e0 e1 f0 f1
      refine OpB.mk' ?_
      go_simp
      refine (HIS.out w' ((Ext.refl W).drew.trans hr)).mono ?_
      rintro e w2 ⟨rfl, hE2⟩
      exact hK.out _ _ rfl hE2
    · refine opF_step ?_
      intro ys l0 h0 w' hr hf K hK
      obtain ⟨f0, -⟩ := hf
      have e0 : ys 3 = _ := f0
      simp only [fill, Act.put, dstO, List.take_succ_cons, List.take_zero, List.setIfInBounds_toArray, List.set_cons_zero, List.set_cons_succ, List.getElem?_cons_zero, List.getElem?_cons_succ, Nat.zero_add, Nat.reduceAdd] at hK ⊢
      simp only [e0] at hK ⊢
      clear e0 f0
      refine OpB.mk' ?_
      go_simp
      exact hK.out _ _ rfl (Ext.refl _)
    · refine opF_step ?_
      intro ys l0 h0 w' hr hf K hK
      obtain ⟨f0, -⟩ := hf
      have e0 : ys 4 = _ := f0
      obtain ⟨j0, j1, j2, j3⟩ := HKC.out w' ((Ext.refl W).drew.trans hr)
      simp only [fill, Act.put, dstO, List.take_succ_cons, List.take_zero, List.setIfInBounds_toArray, List.set_cons_zero, List.set_cons_succ, List.getElem?_cons_zero, List.getElem?_cons_succ, Nat.zero_add, Nat.reduceAdd] at hK ⊢
      simp only [e0] at hK ⊢
      clear e0 f0
      refine OpB.mk' ?_
      go_simp
      exact hK.out _ _ rfl (Ext.refl _)
    · refine opF_step ?_
      intro ys l0 h0 w' hr hf K hK
      obtain ⟨f0, -⟩ := hf
      have e0 : ys 4 = _ := f0
      simp only [fill, Act.put, dstO, List.take_succ_cons, List.take_zero, List.setIfInBounds_toArray, List.set_cons_zero, List.set_cons_succ, List.getElem?_cons_zero, List.getElem?_cons_succ, Nat.zero_add, Nat.reduceAdd] at hK ⊢
      simp only [e0] at hK ⊢
      clear e0 f0
      refine OpB.mk' ?_
      go_simp
      exact hK.out _ _ rfl (Ext.refl _)
    · refine opF_step ?_
      intro ys l0 h0 w' hr hf K hK
      obtain ⟨f0, f1, f2, -⟩ := hf
      have e0 : ys 5 = _ := f0
      have e1 : ys 6 = _ := f1
      have e2 : ys 4 = _ := f2
      simp only [fill, Act.put, dstO, List.take_succ_cons, List.take_zero, List.setIfInBounds_toArray, List.set_cons_zero, List.set_cons_succ, List.getElem?_cons_zero, List.getElem?_cons_succ, Nat.zero_add, Nat.reduceAdd] at hK ⊢
      simp only [e0, e1, e2] at hK ⊢
      clear e0 e1 e2 f0 f1 f2
      refine OpB.mk' ?_
      go_simp
      refine (HIF.out w' ((Ext.refl W).drew.trans hr)).mono ?_
      rintro e w2 ⟨rfl, hE2⟩
      exact hK.out _ _ rfl hE2
    · refine opF_step ?_
      intro ys l0 h0 w' hr hf K hK
      obtain ⟨f0, f1, -⟩ := hf
      have e0 : ys 4 = _ := f0
      have e1 : ys 7 = _ := f1
      simp only [fill, Act.put, dstO, List.take_succ_cons, List.take_zero, List.setIfInBounds_toArray, List.set_cons_zero, List.set_cons_succ, List.getElem?_cons_zero, List.getElem?_cons_succ, Nat.zero_add, Nat.reduceAdd] at hK ⊢
      simp only [e0, e1] at hK ⊢
      clear e0 e1 f0 f1
      refine OpB.mk' ?_
      go_simp
      exact hK.out _ _ rfl (Ext.refl _)
    · refine opF_step ?_
      intro ys l0 h0 w' hr hf K hK
      obtain ⟨f0, f1, -⟩ := hf
      have e0 : ys 0 = _ := f0
      have e1 : ys 8 = _ := f1
      simp only [fill, Act.put, dstO, List.take_succ_cons, List.take_zero, List.setIfInBounds_toArray, List.set_cons_zero, List.set_cons_succ, List.getElem?_cons_zero, List.getElem?_cons_succ, Nat.zero_add, Nat.reduceAdd] at hK ⊢
      simp only [e0, e1] at hK ⊢
      clear e0 e1 f0 f1
      refine OpB.mk' ?_
      go_simp
      refine (HAK.out w' ((Ext.refl W).drew.trans hr)).mono ?_
      rintro e w2 ⟨u, vs, rfl, hR, hE2, hcp⟩
      exact hK.out _ _ ⟨u, vs, rfl, hR.base (Ext.size ((Ext.refl W).drew.trans hr)), hcp⟩ hE2
    · refine opF_step ?_
      intro ys l0 h0 w' hr hf K hK
      obtain ⟨f0, -⟩ := hf
      obtain ⟨u, vs, e0, hR, hcp⟩ := f0
      simp only [fill, Act.put, dstO, List.take_succ_cons, List.take_zero, List.setIfInBounds_toArray, List.set_cons_zero, List.set_cons_succ, List.getElem?_cons_zero, List.getElem?_cons_succ, Nat.zero_add, Nat.reduceAdd] at hK ⊢
      simp only [e0] at hK ⊢
      clear e0
      refine OpB.mk' ?_
      go_simp
      exact hK.out _ _ ⟨u, vs, rfl, hR, hcp⟩ (Ext.refl _)
    · refine opF_step ?_
      intro ys l0 h0 w' hr hf K hK
      obtain ⟨f0, -⟩ := hf
      obtain ⟨u, vs, e0, hR, hcp⟩ := f0
      simp only [fill, Act.put, dstO, List.take_succ_cons, List.take_zero, List.setIfInBounds_toArray, List.set_cons_zero, List.set_cons_succ, List.getElem?_cons_zero, List.getElem?_cons_succ, Nat.zero_add, Nat.reduceAdd] at hK ⊢
      simp only [e0] at hK ⊢
      clear e0
      refine OpB.mk' ?_
      go_simp
      exact hK.out _ _ ⟨vs, hR, hcp⟩ (Ext.refl _)
    · refine opF_step ?_
      intro ys l0 h0 w' hr hf K hK
      obtain ⟨f0, -⟩ := hf
      obtain ⟨u, vs, e0, hR, hcp⟩ := f0
      simp only [fill, Act.put, dstO, List.take_succ_cons, List.take_zero, List.setIfInBounds_toArray, List.set_cons_zero, List.set_cons_succ, List.getElem?_cons_zero, List.getElem?_cons_succ, Nat.zero_add, Nat.reduceAdd] at hK ⊢
      simp only [e0] at hK ⊢
      clear e0
      refine OpB.mk' ?_
      go_simp
      exact hK.out _ _ rfl (Ext.refl _)
    · refine opF_step ?_
      intro ys l0 h0 w' hr hf K hK
      obtain ⟨f0, -⟩ := hf
      simp only [fill, Act.put, dstO, List.take_succ_cons, List.take_zero, List.setIfInBounds_toArray, List.set_cons_zero, List.set_cons_succ, List.getElem?_cons_zero, List.getElem?_cons_succ, Nat.zero_add, Nat.reduceAdd] at hK ⊢
      refine OpB.mk' ?_
      go_simp
      exact hK.out _ _ f0 (Ext.refl _)
    intro ys l0 h0 w2 hr hf hsp
    obtain ⟨f13, f12, -⟩ := hf
    obtain ⟨vs, hR, hcp⟩ := f13
    have e12 : ys 12 = _ := f12
    simp only [fill, Act.put, List.take_succ_cons, List.take_zero, List.setIfInBounds_toArray, List.set_cons_zero, List.set_cons_succ, Nat.zero_add, Nat.reduceAdd, List.drop_succ_cons, List.drop_zero]
    rw [e12]
    clear e12 f12
    generalize ys 13 = u at hR ⊢
    clear hsp
    have hEW : Ext W w2 := (Ext.refl W).drew.trans hr
    have HR := Lib.hid hR
    have HEW := Lib.hid hEW
    obtain ⟨qt, ct, rfl, hLT⟩ := hR.lists
    have HLT := Lib.hid hLT
    clear hr hEW hR hcp hLT HAK
    by_cases hz0 : z = 0
    case neg =>
      have hg : (z == 0) = false := by simpa using hz0
      have HZ := Lib.hid (show errN C t f = z from by unfold errN; rw [← HB.out.1, ← HB.out.2, HTZ.out.2]; rfl)
      have HNA := Lib.hid (show needsA C t f = 0 from by unfold needsA; rw [HZ.out, okN_ne hz0])
      clear hz0
      go_wp2
      go_ret2
      exact RetE.fin (HE.out.trans HEW.out) (by rw [HNA.out, HZ.out]; rfl)
    subst hz0
    obtain ⟨hC, hbt, hso⟩ := errC_0 HTZ.out.2.symm
    have hTC : T = tabC C := by rw [HTZ.out.1, askT_0 HTZ.out.2.symm]
    have htl : T.length = C.meters.length := by rw [hTC, tabC_len]
    obtain ⟨h0, h1⟩ := isTB_iff.1 HB.out.1.symm
    obtain ⟨h2, h3⟩ := isFB_iff.1 (HB.out.2.symm.trans hbt)
    obtain ⟨i, rfl⟩ : ∃ i : Nat, t = i := ⟨t.toNat, by omega⟩
    obtain ⟨k, rfl⟩ : ∃ k : Nat, f = k := ⟨f.toNat, by omega⟩
    have hG : TabG T := by rw [hTC]; exact tabC_ok hC hso
    have hn6 := hG.len
    have HZ := Lib.hid (show errN C i k = 0 from by unfold errN; rw [← HB.out.1, ← HB.out.2]; exact HTZ.out.2.symm)
    have HNA := Lib.hid (show needsA C i k = needV T i k from by unfold needsA; rw [HZ.out, okN_0 rfl, hTC]; rfl)
    have hiI : i < T.length := by omega
    have hk1 : 1 ≤ k := by omega
    have hkn : k ≤ T.length := by omega
    have HHI := Lib.hid (fun j (hj : j < T.length) y (h : Ext w2 y) => high06 T hG.ok j hj hG.ls qt ct y (HLT.out.ext h))
    have HLO := Lib.hid (fun y (h : Ext w2 y) => low06 T hG.ok i hiI qt ct y (HLT.out.ext h))
    have HG := Lib.hid hG
    obtain ⟨i0, hi, hz0, hz1, hz2⟩ := info_parts info_a
    clear hC hbt hso hTC htl h0 h1 h2 h3 hG
    go_wp2
    go_loopw [10, 30] (fun u a wr => ∃ j : Nat, j ≤ T.length ∧ a = .int .i64 j ∧ Ext w2 wr ∧ wr.ownsRow w2.heap.size 3 1 u (wantTo T i j).length (intVs (wantTo T i j))) (fun _ a _ => T.length - (intOf a).toNat)
    case atStart => exact ⟨0, Nat.zero_le _, rfl, Ext.refl _, World.ownsRow_nil _ _ _ _⟩
    case round =>
      obtain ⟨j, hj, rfl, hE2, hO⟩ := hrel
      have HE2 := Lib.hid hE2
      have HO := Lib.hid hO
      clear hE2 hO
      by_cases hlt : j < T.length
      · have hlt' : (j : Int) < (T.length : Int) := by omega
        have HC := Lib.hid (HHI.out j hlt wr HE2.out)
        have hbd := hi_bd HG.out hlt
        have hwl := wantTo_len T i j
        have hws := wantTo_succ T i j
        obtain ⟨x, hx⟩ : ∃ x, x = hiT T j := ⟨_, rfl⟩
        rw [← hx] at HC hbd hws
        obtain ⟨L, hL⟩ : ∃ L, L = wantTo T i j := ⟨_, rfl⟩
        rw [← hL] at HO hwl hws
        have hLl : L.length ≤ 6 := by rw [hwl]; split <;> omega
        have HWS := Lib.hid hws
        clear hwl hws hx hL
        by_cases hji : j < i
        · have hji' : (j : Int) < (i : Int) := by omega
          have hwx : IntKind.i64.wrap (x + 1) = x + 1 := IntWalk.i64_in _ (by omega)
          have HWN := Lib.hid (show wantTo T i (j + 1) = L ++ [x + 1] from by rw [HWS.out, if_neg (by omega), if_pos hji])
          clear HWS
          go_wp2_with (first
            | (go_at_call 37; refine HC.out.mono ?_; rintro e w3 ⟨rfl, hE3⟩)
            | (at_builtin; refine wpList_append_lies _ rfl (.tmp 37) (.tmp 42) 23 rfl w2.heap.size 3 i0 (.int .i64 0) 1 8 Tryz.underlying23 hi hz0 hz1 hz2 rfl (by decide) _ L.length _ rfl (ownsRow_ext HO.out (hE3.alloc _)) ⟨w3.heap.size, 0, none⟩ 1 1 [.int .i64 (x + 1)] rfl rfl (hnewsE (Ext.refl _) rfl) (one_int _) (by decide) ?c3 ?c4 ?c5 (w3.heap.size + 1) (size_alloc _ _) ?_))
          case c3 => unfold maxLen; omega
          case c4 => omega
          case c5 => have := HE2.out.size; have := hE3.size; first | omega | (rw [size_alloc]; omega)
          intro g4 cap4 w5 hown4 hgr4 hat4 hlt4
          have hE5 : Ext w2 w5 := Below.grown (HE2.out.trans (hE3.alloc _)) hgr4 (HE2.out.trans (hE3.alloc _)).size (fun i hi => (HO.out.lt i hi).1)
          have HO5 := Lib.hid hown4
          have HE5 := Lib.hid hE5
          clear hown4 hgr4 hat4 hlt4 hE5 hE3
          go_wp2
          go_roundw
          case rel => exact ⟨j + 1, by omega, by simp, HE5.out, by rw [HWN.out, intVs_snoc, List.length_append]; exact HO5.out⟩
          case measure => simp [intOf]; omega
        · have hji' : ¬(j : Int) < (i : Int) := by omega
          by_cases hij : i < j
          · have hij' : (i : Int) < (j : Int) := by omega
            have HWN := Lib.hid (show wantTo T i (j + 1) = L ++ [x] from by rw [HWS.out, if_neg (by omega), if_neg hji, Int.add_zero])
            clear HWS
            go_wp2_with (first
              | (go_at_call 37; refine HC.out.mono ?_; rintro e w3 ⟨rfl, hE3⟩)
              | (at_builtin; refine wpList_append_lies _ rfl (.tmp 48) (.tmp 52) 23 rfl w2.heap.size 3 i0 (.int .i64 0) 1 8 Tryz.underlying23 hi hz0 hz1 hz2 rfl (by decide) _ L.length _ rfl (ownsRow_ext HO.out (hE3.alloc _)) ⟨w3.heap.size, 0, none⟩ 1 1 [.int .i64 x] rfl rfl (hnewsE (Ext.refl _) rfl) (one_int _) (by decide) ?c3 ?c4 ?c5 (w3.heap.size + 1) (size_alloc _ _) ?_))
            case c3 => unfold maxLen; omega
            case c4 => omega
            case c5 => have := HE2.out.size; have := hE3.size; first | omega | (rw [size_alloc]; omega)
            intro g4 cap4 w5 hown4 hgr4 hat4 hlt4
            have hE5 : Ext w2 w5 := Below.grown (HE2.out.trans (hE3.alloc _)) hgr4 (HE2.out.trans (hE3.alloc _)).size (fun i hi => (HO.out.lt i hi).1)
            have HO5 := Lib.hid hown4
            have HE5 := Lib.hid hE5
            clear hown4 hgr4 hat4 hlt4 hE5 hE3
            go_wp2
            go_roundw
            case rel => exact ⟨j + 1, by omega, by simp, HE5.out, by rw [HWN.out, intVs_snoc, List.length_append]; exact HO5.out⟩
            case measure => simp [intOf]; omega
          · have hij' : ¬(i : Int) < (j : Int) := by omega
            have HWN := Lib.hid (show wantTo T i (j + 1) = L from by rw [HWS.out, if_pos (by omega), List.append_nil])
            clear HWS
            go_wp2
            go_roundw
            case rel => exact ⟨j + 1, by omega, by simp, HE2.out, by rw [HWN.out]; exact HO.out⟩
            case measure => simp [intOf]; omega
      · obtain rfl : j = T.length := by omega
        have hge : ¬(T.length : Int) < (T.length : Int) := by omega
        have hwl := wantTo_len T i T.length
        rw [if_pos hiI] at hwl
        have HNS := Lib.hid (fun (l : List Int) hs hp h2 hl => need_sorted (T := T) (i := i) (l := l) (f := k) hs hp hk1 h2 hl)
        have HNZ := Lib.hid (fun h => need_zero (T := T) (i := i) (f := (k : Int)) h)
        have hbd := want_bd HG.out i (Nat.le_refl T.length)
        have hlb := lo_bd HG.out hiI
        obtain ⟨lo, hlo⟩ : ∃ x, x = loT T i := ⟨_, rfl⟩
        rw [← hlo] at HNS HLO hlb
        obtain ⟨L, hL⟩ : ∃ L, L = wantTo T i T.length := ⟨_, rfl⟩
        rw [← hL] at HO hwl HNS HNZ hbd
        obtain ⟨m, hm⟩ : ∃ m, m = L.length := ⟨_, rfl⟩
        rw [← hm] at HO hwl HNZ
        have HM : EqS m L.length := ⟨hm⟩
        have HBD := Lib.hid hbd
        have HWL : EqS m (T.length - 1) := ⟨hwl⟩
        clear hlo hL hm hbd hlt hwl
        obtain ⟨qu, cu, rfl⟩ := own_shape HO.out
        by_cases hkm : m < k
        · have hkm' : (m : Int) < (k : Int) := by omega
          have HA := Lib.hid (needV_eq (HNZ.out hkm'))
          rw [← HNA.out] at HA
          go_wp2
          go_ret2
          exact RetE.fin (HE.out.trans (HEW.out.trans HE2.out)) (by rw [HA.out, HZ.out]; rfl)
        · have hkm' : ¬(m : Int) < (k : Int) := by omega
          obtain ⟨g, cg, he, -⟩ := ownsRow_at HO.out 0 (by omega)
          cases he
          have HSO := Lib.hid (Sort_i w2.heap.size g m cu L HM.out.symm (by have := HWL.out; omega) wr HO.out)
          have HGB := Lib.hid (HO.out.lt g rfl).1
          go_upto_region 16 with (go_at_call 56; refine HSO.out.mono ?_; rintro e w3 ⟨rfl, l', hp, hs, hU, hO3⟩)
          have hll : l'.length = m := by rw [hp.length_eq, HM.out]
          obtain ⟨r, hr⟩ : ∃ r, r = m - k := ⟨_, rfl⟩
          have hrl : r < l'.length := by omega
          obtain ⟨hc, -⟩ := ownsRow_cell hO3 (i := r) hrl
          have hns := HNS.out l' hs hp (by omega) (by omega)
          have e : l'[l'.length - k]'(by omega) = l'[r] := by congr 1; omega
          rw [e] at hns
          have hab := HBD.out l'[r] (hp.subset (List.getElem_mem hrl))
          obtain ⟨a, ha⟩ : ∃ a, a = l'[r] := ⟨_, rfl⟩
          rw [← ha] at hc hns hab
          have HA := Lib.hid (needV_eq hns)
          rw [← HNA.out] at HA
          have hw : IntKind.i64.wrap ((m : Int) - (k : Int)) = (r : Int) := by have := HWL.out; rw [IntKind.wrap_i64]; omega
          have hr0 : (r : Int) < (m : Int) := by omega
          have hwd : IntKind.i64.wrap (a - lo) = a - lo := IntWalk.i64_in _ (by omega)
          have HEE := Lib.hid (HE2.out.ups hU HGB.out)
          have HLX := Lib.hid (fun x : ExtW w3 => ExtW.call (x := x) (HLO.out x.w ((HE2.out.ups hU HGB.out).trans x.h)))
          have k1 := ExtW.cell hc
          clear hp hs hU hO3 hll hns e hr hrl HSO ha hc
          obtain ⟨x0, hx0⟩ := ExtW.of (Ext.refl w3)
          conv => arg 5; rw [hx0]
          clear hx0
          refine wp_region_extW (by kernel_rfl) (by kernel_rfl) ?_
          repeat (go_big_quiet_step ((go_at_call 36; exact HLX.out _)))
          refine wpQuiet_nil ?_
          rintro _ ⟨x2, rfl⟩
          go_wp2
          all_goals
            go_ret2
            refine RetE.fin (HE.out.trans (HEW.out.trans (HEE.out.trans x2.h))) ?_
            rw [HA.out, HZ.out]
            first
              | (rw [show max 0 (a - lo) = a - lo by omega]; rfl)
              | (rw [show max 0 (a - lo) = 0 by omega]; rfl)
              | (rw [show max 0 (a - lo) = if 0 < a - lo then a - lo else 0 by split <;> omega]; rfl)
end Go.Proofs.YtppncdbhebgcaaaGreatDoor
namespace Go.Proofs.YtppncdbhebgcaaaGreatDoor
open Go.RowKit Go.Maps

/-- what is not gone of the first ones -/
def restS (S : Nat → Bool) (k : Nat) : List Nat := (List.range k).filter fun i => !S i
theorem restS_succ (S : Nat → Bool) (k : Nat) : restS S (k + 1) = restS S k ++ if S k = true then [] else [k] := by
  unfold restS
  rw [List.range_succ, List.filter_append]
  congr 1
  cases h : S k <;> simp [h]
def addS (S : Nat → Bool) (i : Nat) : Nat → Bool := fun x => decide (x = i) || S x
theorem restS_add (S : Nat → Bool) (N i : Nat) : restS (addS S i) N = (restS S N).erase i := by
  have hn : (restS S N).Nodup := List.nodup_iff_pairwise_ne.2 (List.Pairwise.filter _ (List.nodup_iff_pairwise_ne.1 List.nodup_range))
  rw [hn.erase_eq_filter]
  unfold restS addS
  rw [List.filter_filter]
  refine List.filter_congr fun x _ => ?_
  by_cases h : x = i <;> simp [h]
def brO (T : Nat → List Int) (f : Nat) (prev : Option (Nat × Int)) (rest : List Nat) (i : Nat) : List (List Nat) :=
  match bestV (nextP prev i) (T i) with
  | none => []
  | some v => (listO T f (some (i, v)) (rest.erase i)).map (i :: ·)
def sumO (T : Nat → List Int) (f : Nat) (prev : Option (Nat × Int)) (S : Nat → Bool) (N k : Nat) : Nat := ((restS S k).flatMap (brO T f prev (restS S N))).length
theorem sumO_succ (T : Nat → List Int) (f : Nat) (prev : Option (Nat × Int)) (S : Nat → Bool) (N k : Nat) : sumO T f prev S N (k + 1) = sumO T f prev S N k + if S k = true then 0 else (brO T f prev (restS S N) k).length := by
  unfold sumO
  rw [restS_succ, List.flatMap_append, List.length_append]
  by_cases h : S k = true
  · simp [h]
  · simp [h]
theorem sumO_all (T : Nat → List Int) (f : Nat) (prev : Option (Nat × Int)) (S : Nat → Bool) (N : Nat) : sumO T f prev S N N = (listO T (f + 1) prev (restS S N)).length := by
  rw [listO_succ]; rfl
theorem brO_none {T : Nat → List Int} {f : Nat} {prev : Option (Nat × Int)} {rest : List Nat} {i : Nat} (h : bestV (nextP prev i) (T i) = none) : (brO T f prev rest i).length = 0 := by unfold brO; rw [h]; rfl
theorem brO_some {T : Nat → List Int} {f : Nat} {prev : Option (Nat × Int)} {rest : List Nat} {i : Nat} {v : Int} (h : bestV (nextP prev i) (T i) = some v) : (brO T f prev rest i).length = (listO T f (some (i, v)) (rest.erase i)).length := by unfold brO; rw [h]; simp
theorem bestV_of {p : Int → Bool} {l : List Int} {k : Nat} (hk : k < l.length) (hp : p l[k] = true) (hn : ∀ m (h : m < l.length), k < m → p l[m] = false) : bestV p l = some l[k] := by
  unfold bestV
  have e : l = l.take k ++ l[k] :: l.drop (k + 1) := by rw [← List.drop_eq_getElem_cons hk, List.take_append_drop]
  have hd : ∀ x ∈ (l.drop (k + 1)).reverse, ¬p x = true := fun x hx => by
    obtain ⟨m, hm, rfl⟩ := List.getElem_of_mem (List.mem_reverse.1 hx)
    rw [List.getElem_drop, hn _ _ (by omega)]
    decide
  conv => lhs; rw [e]
  rw [List.reverse_append, List.find?_append, List.reverse_cons, List.find?_append, List.find?_eq_none.2 hd]
  simp [hp]
theorem bestV_none {p : Int → Bool} {l : List Int} (hn : ∀ m (h : m < l.length), p l[m] = false) : bestV p l = none := by
  unfold bestV
  refine List.find?_eq_none.2 fun x hx => ?_
  obtain ⟨m, hm, rfl⟩ := List.getElem_of_mem (List.mem_reverse.1 hx)
  rw [hn m hm]
  decide
def UO (N : Nat) : Nat → Nat
  | 0 => 0
  | f + 1 => N * (1 + UO N f)
theorem listO_le {T : Nat → List Int} {N : Nat} : ∀ (f : Nat) (prev : Option (Nat × Int)) (rest : List Nat), rest.length ≤ N → (listO T f prev rest).length ≤ 1 + UO N f := by
  intro f
  induction f with
  | zero => intro _ _ _; exact Nat.le_refl _
  | succ f ih =>
    intro prev rest hr
    have key : ∀ l : List Nat, (l.flatMap (brO T f prev rest)).length ≤ l.length * (1 + UO N f) := by
      intro l
      induction l with
      | nil => simp
      | cons a l ih2 =>
        have hb : (brO T f prev rest a).length ≤ 1 + UO N f := by
          unfold brO
          cases bestV (nextP prev a) (T a) with
          | none => simp
          | some v =>
            rw [List.length_map]
            exact ih _ _ (Nat.le_trans List.length_erase_le hr)
        rw [List.flatMap_cons, List.length_append, List.length_cons, Nat.succ_mul]
        omega
    have h := key rest
    have h2 := Nat.mul_le_mul_right (1 + UO N f) hr
    have e : (listO T (f + 1) prev rest).length = (rest.flatMap (brO T f prev rest)).length := rfl
    have e2 : UO N (f + 1) = N * (1 + UO N f) := rfl
    rw [e, e2]
    omega
theorem restS_len (S : Nat → Bool) (N : Nat) : (restS S N).length ≤ N := by
  unfold restS
  have := List.length_filter_le (fun i => !S i) (List.range N)
  rwa [List.length_range] at this
theorem brO_le {T : Nat → List Int} {N f : Nat} {prev : Option (Nat × Int)} {rest : List Nat} (hr : rest.length ≤ N) (i : Nat) : (brO T f prev rest i).length ≤ 1 + UO N f := by
  unfold brO
  cases bestV (nextP prev i) (T i) with
  | none => simp
  | some v =>
    rw [List.length_map]
    exact listO_le f _ _ (Nat.le_trans List.length_erase_le hr)
theorem sumO_le (T : Nat → List Int) (f : Nat) (prev : Option (Nat × Int)) (S : Nat → Bool) (N : Nat) : ∀ k, sumO T f prev S N k ≤ k * (1 + UO N f) := by
  intro k
  induction k with
  | zero => simp [sumO, restS]
  | succ k ih =>
    rw [sumO_succ, Nat.succ_mul]
    have := brO_le (T := T) (f := f) (prev := prev) (restS_len S N) k
    split <;> omega
/-- a map of what is gone -/
def GoneM (w : World) (b n : Nat) (S : Nat → Bool) (cnt : Nat) : Prop :=
  ∃ D : DataW Unit, w.ownsMap Tryz.prog 3 (plainElem Tryz.prog 3) b n D ∧ Tidy D ∧ Go.Maps.size D = cnt ∧ (∀ i : Nat, D.atKey (.int .i64 i) (.lit (.int .i64 0)) = .lit (.int .i64 (if S i = true then 1 else 0))) ∧ ∀ i : Nat, has D (.int .i64 i) = S i
theorem GoneM.ext {w w' : World} {b n : Nat} {S : Nat → Bool} {cnt : Nat} (h : GoneM w b n S cnt) (hE : Ext w w') : GoneM w' b n S cnt := by
  obtain ⟨D, ⟨es, clock, hb, hF⟩, h2⟩ := h
  exact ⟨D, ⟨es, clock, heap_ext3 hb hE, hF⟩, h2⟩
theorem GoneM.mono {w : World} {b n n' : Nat} {S : Nat → Bool} {cnt : Nat} (h : GoneM w b n S cnt) (hn : n ≤ n') : GoneM w b n' S cnt := by
  obtain ⟨D, h1, h2⟩ := h
  exact ⟨D, h1.mono hn, h2⟩
theorem GoneM.lt {w : World} {b n : Nat} {S : Nat → Bool} {cnt : Nat} (h : GoneM w b n S cnt) : b < w.heap.size := by
  obtain ⟨D, h1, -⟩ := h
  exact h1.lt
theorem GoneM.made (w : World) : GoneM (w.alloc (.map #[] 0)) w.heap.size 0 (fun _ => false) 0 :=
  ⟨.map [], World.ownsMap_made w Tryz.prog 3 _, tidy_empty, rfl, fun _ => rfl, fun _ => rfl⟩
theorem key_nat (i : Nat) (hi : i ≤ 1000) : keyOf Tryz.prog 3 (.int .i64 i) = some (.int .i64 i) := key_int (WalkArith.wf_i64 (by omega))
theorem lit_nat {i j : Nat} (h : (Lit.int .i64 (i : Int)) = .int .i64 (j : Int)) : i = j := by injection h with _ h; omega
/-- gone[i] -/
theorem wp_gone_look (w : World) {ops : Array Oper} {rest : List Oper} {o : Oper} {a : Act} {Q : Exit → Act → World → Prop} (hg : o.guard = none) (m x : Operand) (hop : o.op = Op.lookup 97 m x false)
    (b n : Nat) (S : Nat → Bool) (cnt : Nat) (hm : a.eval m = .map (some b)) (h : GoneM w b n S cnt) (i : Nat) (hi : i ≤ 1000) (hx : a.eval x = .int .i64 i)
    (hK : wpList Tryz.prog ops Q rest (a.put o.dst (.int .i64 (if S i = true then 1 else 0))) w) : wpList Tryz.prog ops Q (o :: rest) a w := by
  obtain ⟨D, ho, -, -, hf, -⟩ := h
  refine wpList_lookup_own_int w hg m x 97 hop 3 3 .i64 law_int Tryz.underlying97 Tryz.underlying3 (zero_i64 w) b n D hm ho _ _ hx (key_nat i hi) ?_
  intro c hat _
  have e := hf i
  rw [hat] at e
  cases e
  exact hK
/-- gone[i] = 1 -/
theorem wp_gone_put (w : World) {ops : Array Oper} {rest : List Oper} {o : Oper} {a : Act} {Q : Exit → Act → World → Prop} (hg : o.guard = none) (m x y : Operand) (hop : o.op = Op.mapUpdate 97 m x y)
    (b n : Nat) (S : Nat → Bool) (cnt : Nat) (hm : a.eval m = .map (some b)) (h : GoneM w b n S cnt) (hn : n < 1000000) (i : Nat) (hi : i ≤ 1000) (hS : S i = false) (hx : a.eval x = .int .i64 i) (hy : a.eval y = .int .i64 1)
    (hK : ∀ w', GoneM w' b (n + 1) (addS S i) (cnt + 1) → w.grownBy w' (some b) → wpList Tryz.prog ops Q rest (a.put o.dst undef) w') : wpList Tryz.prog ops Q (o :: rest) a w := by
  obtain ⟨D, ho, hD, hsz, hf, hh⟩ := h
  refine wpList_mapUpdate_own w hg m x y 97 hop 3 3 law_int Tryz.underlying97 (plainElem Tryz.prog 3) b n D hm ho (by unfold maxLen; omega) _ (.int .i64 1) _ hx hy (key_nat i hi) (.lit (.int .i64 1)) [] (plainElem_int Tryz.underlying3 (WalkArith.wf_i64 (by omega))) ?_
  intro w' ho' hg'
  have hkl := law_int.key (key_nat i hi)
  refine hK w' ⟨_, ho', hD.put hkl _, by rw [size_put hD, hh, hS, if_neg (by decide), hsz], fun k => ?_, fun k => ?_⟩ hg'
  · unfold addS
    by_cases hk : k = i
    · subst hk
      rw [atKey_put_same hD.isMap hkl]
      simp
    · rw [atKey_put_other (fun e => hk (lit_nat e)), hf]
      simp [hk]
  · unfold addS
    by_cases hk : k = i
    · subst hk
      rw [has_put_same hD.isMap hkl]
      simp
    · rw [has_put_other (fun e => hk (lit_nat e)), hh]
      simp [hk]
/-- delete(gone, i) -/
theorem wp_gone_del (w : World) {ops : Array Oper} {rest : List Oper} {o : Oper} {a : Act} {Q : Exit → Act → World → Prop} (hg : o.guard = none) (m x : Operand) (hop : o.op = Op.call { callee := Callee.builtin Builtin.delete, args := #[m, x], argTypes := #[97, 3] })
    (b n : Nat) (S : Nat → Bool) (cnt : Nat) (hm : a.eval m = .map (some b)) (i : Nat) (hi : i ≤ 1000) (hS : S i = false) (h : GoneM w b n (addS S i) (cnt + 1)) (hx : a.eval x = .int .i64 i)
    (hK : ∀ w', GoneM w' b n S cnt → w.grownBy w' (some b) → wpList Tryz.prog ops Q rest (a.put o.dst (.tuple #[])) w') : wpList Tryz.prog ops Q (o :: rest) a w := by
  obtain ⟨D, ho, hD, hsz, hf, hh⟩ := h
  refine wpList_delete_own w hg m x 97 3 hop 3 law_int Tryz.underlying97 (plainElem Tryz.prog 3) b n D hm ho _ _ hx (key_nat i hi) ?_
  intro w' ho' ht
  have hself : addS S i i = true := by unfold addS; simp
  have hne : ∀ k, ¬k = i → addS S i k = S k := fun k hk => by unfold addS; simp [hk]
  have hs1 := size_del (k := .int .i64 (i : Int)) hD
  rw [hh, hself, if_pos rfl, hsz] at hs1
  refine hK w' ⟨_, ho', hD.del _, by omega, fun k => ?_, fun k => ?_⟩ ht.grown
  · by_cases hk : k = i
    · subst hk
      rw [atKey_del_same, hS]
      simp
    · rw [atKey_del_other (fun e => hk (lit_nat e)), hf, hne k hk]
  · by_cases hk : k = i
    · subst hk
      rw [has_del_same, hS]
    · rw [has_del_other (fun e => hk (lit_nat e)), hh, hne k hk]
/-- len(gone) -/
theorem wp_gone_len (w : World) {ops : Array Oper} {rest : List Oper} {o : Oper} {a : Act} {Q : Exit → Act → World → Prop} (hg : o.guard = none) (m : Operand) (hop : o.op = Op.call { callee := Callee.builtin Builtin.len, args := #[m], argTypes := #[97] })
    (b n : Nat) (S : Nat → Bool) (cnt : Nat) (hm : a.eval m = .map (some b)) (h : GoneM w b n S cnt)
    (hK : wpList Tryz.prog ops Q rest (a.put o.dst (.int .i64 (cnt : Nat))) w) : wpList Tryz.prog ops Q (o :: rest) a w := by
  obtain ⟨D, ho, hD, hsz, -⟩ := h
  refine wpList_len_own w hg m 97 hop 3 3 Tryz.underlying97 (plainElem Tryz.prog 3) b n D hm ho ?_
  rw [hsz]
  exact hK
def prevT : Option (Nat × Int) → Int
  | none => -1
  | some (j, _) => j
def prevN : Option (Nat × Int) → Int
  | none => 0
  | some (_, m) => m
structure EqS2 (n m : Int) : Prop where
  out : n = m
/-- what orders leaves behind it -/
theorem Ext.grownB {w w' : World} (h : Ext w w') {r : Option Nat} : w.grownBy w' r := ⟨h.os, h.tape, h.output, h.size, fun i hi _ => h.block i hi⟩
def RetO (b n : Nat) (S : Nat → Bool) (cnt : Nat) (v : Value) (w : World) (e : Ending) (w' : World) : Prop := e = .returned v ∧ w.grownBy w' (some b) ∧ GoneM w' b n S cnt

set_option maxRecDepth 20000 in
set_option maxHeartbeats 6400000 in
theorem orders06 (T : Tab) (hG : TabG T) (q : Option Addr) (c : Nat) (W0 : World) (hv : ListsAt W0 q T) (b : Nat) (hb : W0.heap.size ≤ b) :
    ∀ (f n cnt : Nat) (S : Nat → Bool) (prev : Option (Nat × Int)) (w : World), cnt + f = T.length → n + UO T.length f < 1000000 → (∀ j m, prev = some (j, m) → j ≤ 1000) → Ext W0 w → GoneM w b n S cnt →
    Calls Tryz.prog 48 #[.slice q T.length c, .map (some b), .int .i64 (prevT prev), .int .i64 (prevN prev)] w
      (RetO b (n + UO T.length f) S cnt (.int .i64 (listO (rowT T) f prev (restS S T.length)).length) w) := by
  intro f
  induction f with
  | zero =>
    intro n cnt S prev w hcnt hn hpv hE hM
    have HM := Lib.hid hM
    obtain rfl : cnt = T.length := by omega
    clear hM hcnt
    go_enter Tryz.func48, Tryz.ntmps48
    go_wp2_with (at_len; refine wp_gone_len _ rfl _ rfl b n S T.length rfl HM.out ?_)
    go_ret
    exact ⟨rfl, World.grownBy.refl _ _, HM.out⟩
  | succ f ih =>
    intro n cnt S prev w hcnt hn hpv hE hM
    have hN6 := hG.len
    have hUe : UO T.length (f + 1) = T.length * (1 + UO T.length f) := rfl
    have hsl := sumO_le (rowT T) f prev S T.length
    have hss := sumO_succ (rowT T) f prev S T.length
    have hsa := sumO_all (rowT T) f prev S T.length
    have hmul : ∀ j, j < T.length → j * (1 + UO T.length f) + (1 + UO T.length f) ≤ UO T.length (f + 1) := fun j hj => by
      have := Nat.mul_le_mul_right (1 + UO T.length f) (show j + 1 ≤ T.length from hj)
      rwa [Nat.succ_mul] at this
    have hIH := fun (n' i : Nat) (x : Int) (y : World) (hi : i < T.length) (hSi : S i = false) (hn' : n' + UO T.length f < 1000000) (hy : Ext W0 y) (hM' : GoneM y b n' (addS S i) (cnt + 1)) =>
      ih n' (cnt + 1) (addS S i) (some (i, x)) y (by omega) hn' (fun j m e => by cases e; omega) hy hM'
    rw [hUe] at hn
    obtain ⟨bb, oo, q0, c0, rfl, -, -⟩ := hv.row (i := 0) (by omega)
    obtain ⟨u, hu⟩ : ∃ u, u = UO T.length f := ⟨_, rfl⟩
    rw [← hu] at hsl hIH hmul hn
    obtain ⟨tot, htot⟩ : ∃ tot, tot = UO T.length (f + 1) := ⟨_, rfl⟩
    rw [← htot] at hmul ⊢
    have htN : T.length * (1 + u) = tot := by rw [htot, hUe, hu]
    rw [htN] at hn
    have hsN := hsl T.length
    rw [htN] at hsN
    obtain ⟨sm, hsm⟩ : ∃ sm, sm = sumO (rowT T) f prev S T.length := ⟨_, rfl⟩
    rw [← hsm] at hsl hss hsa hsN
    have hs0 : sm 0 = 0 := by rw [hsm]; rfl
    have HSS := Lib.hid hss
    have HSA := Lib.hid hsa
    have HS0 := Lib.hid hs0
    have HSL := Lib.hid hsl
    have HMU := Lib.hid hmul
    have HIH := Lib.hid hIH
    have HTN := Lib.hid htN
    have HV := Lib.hid hv
    have HM := Lib.hid hM
    have HE := Lib.hid hE
    have HPV := Lib.hid hpv
    have HG := Lib.hid hG
    have HB := Lib.hid hb
    obtain ⟨tv, htv⟩ : ∃ tv, tv = prevT prev := ⟨_, rfl⟩
    obtain ⟨nv, hnv⟩ : ∃ nv, nv = prevN prev := ⟨_, rfl⟩
    rw [← htv, ← hnv]
    have HTV : EqS2 tv (prevT prev) := ⟨htv⟩
    have HNV : EqS2 nv (prevN prev) := ⟨hnv⟩
    have hcl : ((cnt : Int) == (T.length : Int)) = false := by simp; omega
    have hcl2 : (cnt == T.length) = false := by simp; omega
    have hcl3 : decide (cnt = T.length) = false := by simp; omega
    have hsb := hsN
    clear htv hnv hss hsa hs0 hsl hmul hIH htN hM hE hpv hv hu htot hsm hUe ih hsN hcnt hG hb
    go_enter Tryz.func48, Tryz.ntmps48
    go_wp2_with (at_len; refine wp_gone_len _ rfl _ rfl b n S cnt rfl HM.out ?_)
    go_loopw [9, 19] (fun x i wr => ∃ j n' : Nat, j ≤ T.length ∧ i = .int .i64 j ∧ x = .int .i64 (sm j : Nat) ∧ w.grownBy wr (some b) ∧ GoneM wr b n' S cnt ∧ n' ≤ n + j * (1 + u)) (fun _ i _ => T.length - (intOf i).toNat)
    case atStart => exact ⟨0, n, Nat.zero_le _, rfl, by rw [HS0.out]; rfl, World.grownBy.refl _ _, HM.out, by omega⟩
    case round =>
      obtain ⟨j, n', hj, rfl, rfl, hg, hM, hn'⟩ := hrel
      obtain ⟨wo, rfl⟩ : ∃ wo, wo = wr := ⟨_, rfl⟩
      have hEo : Ext W0 wo := Below.grown HE.out hg HE.out.size (fun k hk => by cases hk; exact HB.out)
      have HEO := Lib.hid hEo
      have HGO := Lib.hid hg
      have HMO := Lib.hid hM
      have hsj := HSL.out j
      clear hM hg
      by_cases hlt : j < T.length
      · have hlt' : (j : Int) < (T.length : Int) := by omega
        have hmj := HMU.out j hlt
        have HSJ := Lib.hid (HSS.out j)
        by_cases hS : S j = true
        · have HSN := Lib.hid (show sm (j + 1) = sm j from by rw [HSJ.out, if_pos hS]; rfl)
          have hif : (if S j = true then (1 : Int) else 0) = 1 := if_pos hS
          clear hS hEo
          go_wp2_with (at_lookup; refine wp_gone_look _ rfl _ _ rfl b n' S cnt rfl HMO.out j (by omega) rfl ?_; rw [hif])
          go_roundw
          case rel => exact ⟨j + 1, n', by omega, by simp, by rw [HSN.out], HGO.out, HMO.out, by rw [Nat.succ_mul]; omega⟩
          case measure => simp [intOf]; omega
        · have hSf : S j = false := by simpa using hS
          have HSF := Lib.hid hSf
          have hif : (if S j = true then (1 : Int) else 0) = 0 := if_neg hS
          have HSJ := Lib.hid (show sm (j + 1) = sm j + (brO (rowT T) f prev (restS S T.length) j).length from by rw [HSJ.out, if_neg hS])
          obtain ⟨b1, o1, q1, c1, he, hc1, hi1⟩ := (HV.out.ext hEo).row hlt
          cases he
          have hlp : 0 < (rowT T j).length := List.length_pos_iff.2 (HG.out.ok.ne hlt)
          have hl2 : (rowT T j).length ≤ 2000 := by rw [rowT_get hlt]; exact HG.out.ls _ (List.getElem_mem hlt)
          obtain ⟨b2, o2, rfl, -⟩ := hi1.at 0 hlp
          have HRD := Lib.hid (fun (k : Nat) (hk : k < (rowT T j).length) => (by
            obtain ⟨b', o', he, hc⟩ := ((HV.out.row hlt).choose_spec.choose_spec.choose_spec.choose_spec.2.2).at k hk
            exact trivial : True))
          have hrw : ∃ cc, W0.cell? ⟨bb, oo + j, none⟩ = some (.slice (some ⟨b2, o2, none⟩) (rowT T j).length cc) ∧ IntsAt W0 (some ⟨b2, o2, none⟩) (rowT T j) := by
            obtain ⟨b3, o3, q3, c3, he3, hc3, hi3⟩ := HV.out.row hlt
            cases he3
            have hh := hEo.cell hc3
            rw [hc1] at hh
            cases hh
            exact ⟨c1, hc3, hi3⟩
          obtain ⟨cc, hc0, hi0⟩ := hrw
          have HLI := Lib.hid hi0
          have HLC := Lib.hid hc0
          have hBO := fun (k : Nat) (hk : k < (rowT T j).length) => bestV_of (p := nextP prev j) (l := rowT T j) hk
          have hBN := bestV_none (p := nextP prev j) (l := rowT T j)
          have HBS := Lib.hid (fun (v : Int) (h : bestV (nextP prev j) (rowT T j) = some v) => brO_some (f := f) (rest := restS S T.length) h)
          have HBZ := Lib.hid (fun (h : bestV (nextP prev j) (rowT T j) = none) => brO_none (f := f) (rest := restS S T.length) h)
          obtain ⟨l, hl⟩ : ∃ l, l = rowT T j := ⟨_, rfl⟩
          rw [← hl] at HLI HLC hlp hl2 HBS HBZ
          have HBO := Lib.hid (show ∀ (k : Nat) (hk : k < l.length), nextP prev j l[k] = true → (∀ m (h : m < l.length), k < m → nextP prev j l[m] = false) → bestV (nextP prev j) l = some l[k] from by rw [hl]; exact hBO)
          have HBN := Lib.hid (show (∀ m (h : m < l.length), nextP prev j l[m] = false) → bestV (nextP prev j) l = none from by rw [hl]; exact hBN)
          obtain ⟨ln, hln⟩ : ∃ ln, ln = l.length := ⟨_, rfl⟩
          rw [← hln] at HLC hlp hl2
          have HLN : EqS ln l.length := ⟨hln⟩
          have HCR := Lib.hid (fun y (h : Ext W0 y) => (h.cell HLC.out : y.cell? ⟨bb, oo + j, none⟩ = some (.slice (some ⟨b2, o2, none⟩) ln cc)))
          have k1 := HCR.out wo hEo
          have hwl : IntKind.i64.wrap ((ln : Int) - 1) = (ln : Int) - 1 := IntWalk.i64_in _ (by omega)
          clear hS hSf hEo hc1 hi1 HRD hc0 hi0 hBO hBN hl hln
          go_upto_region 9 with (at_lookup; refine wp_gone_look _ rfl _ _ rfl b n' S cnt rfl HMO.out j (by omega) rfl ?_; rw [hif])
          go_loopw [11] (fun a w3 => ∃ m : Nat, m ≤ ln ∧ a = .int .i64 ((m : Int) - 1) ∧ (∀ x (h : x < l.length), m ≤ x → nextP prev j l[x] = false) ∧ Ext wo w3) (fun a _ => ((intOf a) + 1).toNat)
          case atStart => exact ⟨ln, Nat.le_refl _, rfl, fun x h hx => by have := HLN.out; omega, Ext.refl _⟩
          case round =>
            obtain ⟨m, hm, rfl, hfm, hE3⟩ := hrel
            have HFM := Lib.hid hfm
            have HE3 := Lib.hid hE3
            clear hfm hE3 k1
            by_cases hm0 : m = 0
            · subst hm0
              have HSN := Lib.hid (show sm (j + 1) = sm j from by rw [HSJ.out, HBZ.out (HBN.out fun x h => HFM.out x h (Nat.zero_le _))]; rfl)
              have hm1 : ((0 : Nat) : Int) - 1 = -1 := by omega
              rw [hm1]
              clear hm1
              go_wp2
              go_roundw
              case rel => exact ⟨j + 1, n', by omega, by simp, by rw [HSN.out], HGO.out.trans (Ext.grownB HE3.out), HMO.out.ext HE3.out, by rw [Nat.succ_mul]; omega⟩
              case measure => simp [intOf]; omega
            · obtain ⟨p, rfl⟩ : ∃ p, m = p + 1 := ⟨m - 1, by omega⟩
              have hpl : p < l.length := by have := HLN.out; omega
              have hmp : ((p + 1 : Nat) : Int) - 1 = (p : Int) := by omega
              rw [hmp]
              obtain ⟨b', o', he, hcx⟩ := HLI.out.at p hpl
              cases he
              have HNX := Lib.hid (fun (m : Nat) (h : m < l.length) (hpm : p < m) => HFM.out m h hpm)
              have hbv := HBO.out p hpl
              have HPL := Lib.hid hpl
              have hxb : nextP prev j l[p] = true ∨ nextP prev j l[p] = false := by cases nextP prev j l[p] <;> simp
              have hstay : nextP prev j l[p] = false → ∀ x (h : x < l.length), p ≤ x → nextP prev j l[x] = false := fun h0 x h hx => by
                by_cases e : x = p
                · subst e; exact h0
                · exact HNX.out x h (by omega)
              obtain ⟨x, hx⟩ : ∃ x : Int, x = l[p] := ⟨_, rfl⟩
              replace hcx : W0.cell? ⟨b2, o2 + p, none⟩ = some (.int .i64 x) := by rw [hx]; exact hcx
              replace hbv : nextP prev j x = true → (∀ m (h : m < l.length), p < m → nextP prev j l[m] = false) → bestV (nextP prev j) l = some x := by rw [hx]; exact hbv
              replace hxb : nextP prev j x = true ∨ nextP prev j x = false := by rw [hx]; exact hxb
              replace hstay : nextP prev j x = false → ∀ x (h : x < l.length), p ≤ x → nextP prev j l[x] = false := by rw [hx]; exact hstay
              have HXR := Lib.hid (fun y (h : Ext W0 y) => (⟨HCR.out y h, h.cell hcx⟩ : y.cell? ⟨bb, oo + j, none⟩ = some (.slice (some ⟨b2, o2, none⟩) ln cc) ∧ y.cell? ⟨b2, o2 + p, none⟩ = some (.int .i64 x)))
              obtain ⟨j0, j1⟩ := HXR.out wr (HEO.out.trans HE3.out)
              have hpln : (p : Int) < (ln : Int) := by have := HLN.out; omega
              have hp0 : (0 : Int) ≤ (p : Int) := by omega
              have HST := Lib.hid hstay
              have HBV := Lib.hid (fun h => hbv h HNX.out)
              clear hm0 hmp hcx hbv hstay hx hpl
              rcases hxb with hp | hp
              · have HXV := Lib.hid (HBS.out x (HBV.out hp))
                have HSN := Lib.hid (show sm (j + 1) = sm j + (listO (rowT T) f (some (j, x)) ((restS S T.length).erase j)).length from by rw [HSJ.out, HXV.out])
                have HLO := Lib.hid (listO_le (T := rowT T) (N := T.length) f (some (j, x)) ((restS S T.length).erase j) (Nat.le_trans List.length_erase_le (restS_len S T.length)))
                have HAH := Lib.hid (fun i a y => (ahead06 i a j x y : Calls Tryz.prog _ _ _ _))
                clear HBZ HBN HBS HBO HBV HST HXV HSJ
                cases prev with
                | none =>
                  have htn : ¬(0 : Int) ≤ tv := by have := HTV.out; rw [this]; decide
                  go_upto_region 11 with (fail)
                  obtain ⟨W4, hW4⟩ : ∃ W4, W4 = wr := ⟨_, rfl⟩
                  rw [← hW4]
                  have HE4 := Lib.hid (show Ext wo W4 from by rw [hW4]; exact HE3.out)
                  clear hW4
                  have hpn : ¬(p : Int) < 0 := by omega
                  have HM4 := Lib.hid (HMO.out.ext HE4.out)
                  have HG4 := Lib.hid (show w.grownBy W4 (some b) from HGO.out.trans (Ext.grownB HE4.out))
                  have HE04 := Lib.hid (HEO.out.trans HE4.out)
                  have hnu : n' + 1 + u < 1000000 := by omega
                  have HIX := Lib.hid (fun y (hy : Ext W0 y) (hM' : GoneM y b (n' + 1) (addS S j) (cnt + 1)) => (by
                    have h := HIH.out (n' + 1) j x y hlt HSF.out hnu hy hM'
                    rw [restS_add] at h
                    exact h : Calls Tryz.prog 48 #[.slice (some ⟨bb, oo, none⟩) T.length c, .map (some b), .int .i64 j, .int .i64 x] y
                      (RetO b (n' + 1 + u) (addS S j) (cnt + 1) (.int .i64 (listO (rowT T) f (some (j, x)) ((restS S T.length).erase j)).length) y)))
                  obtain ⟨K, hK⟩ : ∃ K, K = (listO (rowT T) f (some (j, x)) ((restS S T.length).erase j)).length := ⟨_, rfl⟩
                  rw [← hK] at HIX HSN
                  have hw : IntKind.i64.wrap ((sm j : Int) + (K : Int)) = (sm j : Int) + (K : Int) := by
                    have h1 := HSL.out (j + 1)
                    rw [HSN.out, Nat.succ_mul] at h1
                    exact IntWalk.i64_in _ (by omega)
                  clear hp j0 j1 hK HLO
                  go_wp2_with (first
                    | (at_mapUpdate; refine wp_gone_put _ rfl _ _ _ rfl b n' S cnt rfl HM4.out (by omega) j (by omega) HSF.out rfl rfl ?_; intro w5 hM5 hg5; have hE5 : Ext W0 w5 := Below.grown HE04.out hg5 HE04.out.size (fun k hk => by cases hk; exact HB.out); obtain ⟨d0, d1⟩ := HXR.out w5 hE5; have HM5 := Lib.hid hM5; have HG5 := Lib.hid hg5; have HE5 := Lib.hid hE5; clear hM5 hg5 hE5)
                    | (go_at_call 48; refine (HIX.out _ HE5.out HM5.out).mono ?_; rintro e w6 ⟨rfl, hg6, hM6⟩; have HM6 := Lib.hid hM6; have HG6 := Lib.hid hg6; clear hM6 hg6)
                    | (at_delete; refine wp_gone_del _ rfl _ _ rfl b (n' + 1 + u) S cnt rfl j (by omega) HSF.out HM6.out rfl ?_; intro w7 hM7 hg7; have HM7 := Lib.hid hM7; have HG7 := Lib.hid hg7; clear hM7 hg7))
                  go_roundw
                  case rel => exact ⟨j + 1, n' + 1 + u, by omega, by simp, by rw [HSN.out]; rfl, HG4.out.trans (HG5.out.trans (HG6.out.trans HG7.out)), HM7.out, by rw [Nat.succ_mul]; omega⟩
                  case measure => simp [intOf]; omega
                | some pm =>
                  obtain ⟨jj, mm⟩ := pm
                  have hjj : (0 : Int) ≤ tv := by have h : tv = (jj : Int) := HTV.out; omega
                  have hah : ahd jj mm j x = true := hp
                  have HAA := Lib.hid (show Calls Tryz.prog 51 #[.int .i64 tv, .int .i64 nv, .int .i64 j, .int .i64 x] wr (RetE (.bool true) wr) from by
                    have h := HAH.out jj mm wr
                    rw [hah] at h
                    rw [HTV.out, HNV.out]
                    exact h)
                  clear hah
                  go_upto_region 11 with (go_at_call 51; refine HAA.out.mono ?_; rintro e W4 ⟨rfl, hE4⟩)
                  have HE4 := Lib.hid (HE3.out.trans hE4)
                  clear hE4
                  have hpn : ¬(p : Int) < 0 := by omega
                  have HM4 := Lib.hid (HMO.out.ext HE4.out)
                  have HG4 := Lib.hid (show w.grownBy W4 (some b) from HGO.out.trans (Ext.grownB HE4.out))
                  have HE04 := Lib.hid (HEO.out.trans HE4.out)
                  have hnu : n' + 1 + u < 1000000 := by omega
                  have HIX := Lib.hid (fun y (hy : Ext W0 y) (hM' : GoneM y b (n' + 1) (addS S j) (cnt + 1)) => (by
                    have h := HIH.out (n' + 1) j x y hlt HSF.out hnu hy hM'
                    rw [restS_add] at h
                    exact h : Calls Tryz.prog 48 #[.slice (some ⟨bb, oo, none⟩) T.length c, .map (some b), .int .i64 j, .int .i64 x] y
                      (RetO b (n' + 1 + u) (addS S j) (cnt + 1) (.int .i64 (listO (rowT T) f (some (j, x)) ((restS S T.length).erase j)).length) y)))
                  obtain ⟨K, hK⟩ : ∃ K, K = (listO (rowT T) f (some (j, x)) ((restS S T.length).erase j)).length := ⟨_, rfl⟩
                  rw [← hK] at HIX HSN
                  have hw : IntKind.i64.wrap ((sm j : Int) + (K : Int)) = (sm j : Int) + (K : Int) := by
                    have h1 := HSL.out (j + 1)
                    rw [HSN.out, Nat.succ_mul] at h1
                    exact IntWalk.i64_in _ (by omega)
                  clear hp j0 j1 hK HLO
                  go_wp2_with (first
                    | (at_mapUpdate; refine wp_gone_put _ rfl _ _ _ rfl b n' S cnt rfl HM4.out (by omega) j (by omega) HSF.out rfl rfl ?_; intro w5 hM5 hg5; have hE5 : Ext W0 w5 := Below.grown HE04.out hg5 HE04.out.size (fun k hk => by cases hk; exact HB.out); obtain ⟨d0, d1⟩ := HXR.out w5 hE5; have HM5 := Lib.hid hM5; have HG5 := Lib.hid hg5; have HE5 := Lib.hid hE5; clear hM5 hg5 hE5)
                    | (go_at_call 48; refine (HIX.out _ HE5.out HM5.out).mono ?_; rintro e w6 ⟨rfl, hg6, hM6⟩; have HM6 := Lib.hid hM6; have HG6 := Lib.hid hg6; clear hM6 hg6)
                    | (at_delete; refine wp_gone_del _ rfl _ _ rfl b (n' + 1 + u) S cnt rfl j (by omega) HSF.out HM6.out rfl ?_; intro w7 hM7 hg7; have HM7 := Lib.hid hM7; have HG7 := Lib.hid hg7; clear hM7 hg7))
                  go_roundw
                  case rel => exact ⟨j + 1, n' + 1 + u, by omega, by simp, by rw [HSN.out]; rfl, HG4.out.trans (HG5.out.trans (HG6.out.trans HG7.out)), HM7.out, by rw [Nat.succ_mul]; omega⟩
                  case measure => simp [intOf]; omega
              · have HFN := Lib.hid (HST.out hp)
                clear HBZ HBN HBS HBO HBV HST HSJ
                cases prev with
                | none => exact absurd hp (by simp [nextP])
                | some pm =>
                  obtain ⟨jj, mm⟩ := pm
                  have hjj : (0 : Int) ≤ tv := by have h : tv = (jj : Int) := HTV.out; omega
                  have hah : ahd jj mm j x = false := hp
                  have HAA := Lib.hid (show Calls Tryz.prog 51 #[.int .i64 tv, .int .i64 nv, .int .i64 j, .int .i64 x] wr (RetE (.bool false) wr) from by
                    have h := ahead06 jj mm j x wr
                    rw [hah] at h
                    rw [HTV.out, HNV.out]
                    exact h)
                  have hwp : IntKind.i64.wrap ((p : Int) - 1) = (p : Int) - 1 := IntWalk.i64_in _ (by omega)
                  clear hah hp
                  go_wp2_with (go_at_call 51; refine HAA.out.mono ?_; rintro e w4 ⟨rfl, hE4⟩)
                  go_roundw
                  case rel => exact ⟨p, by omega, rfl, HFN.out, HE3.out.trans hE4⟩
                  case measure => simp [intOf]
      · obtain rfl : j = T.length := by omega
        have hge : ¬(T.length : Int) < (T.length : Int) := by omega
        have HR := Lib.hid (show sm T.length = (listO (rowT T) (f + 1) prev (restS S T.length)).length from HSA.out)
        clear hEo
        go_wp2
        go_ret
        exact ⟨by rw [← HR.out]; rfl, HGO.out, HMO.out.mono (by rw [HTN.out] at hn'; exact hn')⟩
theorem restS_none (N : Nat) : restS (fun _ => false) N = List.range N := by
  unfold restS
  rw [List.filter_eq_self]
  intro x _
  rfl
noncomputable def ordersA (C : Ch) : Int := okN (errC C true) ((allO C.meters.length (rowT (tabC C))).length : Nat)
theorem UO_6 {N : Nat} (h : N ≤ 6) : UO N N < 1000000 := by
  have : N = 0 ∨ N = 1 ∨ N = 2 ∨ N = 3 ∨ N = 4 ∨ N = 5 ∨ N = 6 := by omega
  rcases this with rfl | rfl | rfl | rfl | rfl | rfl | rfl <;> decide
set_option maxRecDepth 20000 in
set_option maxHeartbeats 3200000 in
theorem Orders06 (C : Ch) (v : Value) (w : World) (hv : ChV w v C) (hs : ChSm C) (hT : TabW w) :
    Calls Tryz.prog 17 #[v] w (RetE (.tuple #[.int .i64 (ordersA C), .int .i64 (errC C true)]) w) := by
  have hmm := @run_makeMap Tryz.prog
  have HV := Lib.hid hv
  have HS := Lib.hid hs
  have HT := Lib.hid hT
  obtain ⟨p, c, q, d, rfl, hp, hq⟩ := hv
  clear hp hq hT hs
  go_enter Tryz.func17, Tryz.ntmps17
  go_upto_region 1 with (fail)
  obtain ⟨s0, hs0⟩ : ∃ s0, s0 = w.heap.size := ⟨_, rfl⟩
  obtain ⟨W, hW⟩ : ∃ W, W = w.alloc (.cells #[.slice p C.meters.length c, .slice q C.extra.length d, .int .i64 C.frm, .int .i64 C.tto] 25) := ⟨_, rfl⟩
  have m0 : W.heap[s0]? = some (.cells #[.slice p C.meters.length c, .slice q C.extra.length d, .int .i64 C.frm, .int .i64 C.tto] 25) := by rw [hs0, hW]; exact heap_new _ _
  have hE : Ext w W := by rw [hW]; exact Ext.alloc (Ext.refl _) _
  rw [← hs0, ← hW]
  have HKC := Lib.hid (fun y (h : Ext W y) => (⟨h.cell (cell_of_heap m0 0), h.cell (cell_of_heap m0 1), h.cell (cell_of_heap m0 2), h.cell (cell_of_heap m0 3)⟩ :
    y.cell? ⟨s0, 0, none⟩ = some (.slice p C.meters.length c) ∧ y.cell? ⟨s0, 1, none⟩ = some (.slice q C.extra.length d) ∧ y.cell? ⟨s0, 2, none⟩ = some (.int .i64 C.frm) ∧ y.cell? ⟨s0, 3, none⟩ = some (.int .i64 C.tto)))
  have HE := Lib.hid hE
  have HVW := Lib.hid (fun y (h : Ext W y) => HV.out.ext (HE.out.trans h))
  have HAK := Lib.hid (ask06 C true _ W (HV.out.ext hE) HS.out (HT.out.ext hE))
  have d0 := cell_of_heap m0 0
  have d1 := cell_of_heap m0 1
  have d2 := cell_of_heap m0 2
  have d3 := cell_of_heap m0 3
  obtain ⟨z, hz⟩ : ∃ z, z = errC C true := ⟨_, rfl⟩
  rw [← hz] at HAK
  have HZ := Lib.hid hz
  clear hW m0 hE hs0
  by_cases hz0 : z = 0
  case neg =>
    have hg : (z == 0) = false := by simpa using hz0
    have HNA := Lib.hid (show ordersA C = 0 from by unfold ordersA; rw [← hz, okN_ne hz0])
    clear hz0 hz
    go_wp2_with (go_at_call 31; refine HAK.out.mono ?_; rintro e w2 ⟨u, vs, rfl, hR, hE2, hcp⟩)
    go_ret2
    exact RetE.fin (HE.out.trans hE2) (by rw [HNA.out, ← HZ.out]; rfl)
  subst hz0
  obtain ⟨hC, hbt, hso⟩ := errC_0 hz.symm
  have hG : TabG (tabC C) := tabC_ok hC hso
  have hln := tabC_len C
  rw [askT_0 hz.symm] at HAK
  have HNA := Lib.hid (show ordersA C = ((listO (rowT (tabC C)) (tabC C).length none (restS (fun _ => false) (tabC C).length)).length : Nat) from by unfold ordersA; rw [← hz, okN_0 rfl, restS_none, hln]; rfl)
  obtain ⟨T, hT⟩ : ∃ T, T = tabC C := ⟨_, rfl⟩
  rw [← hT] at HAK HNA hG
  have HG := Lib.hid hG
  have hn6 := hG.len
  clear hz hC hbt hso hln hT hG
  go_upto_region 4 with (go_at_call 31; refine HAK.out.mono ?_; rintro e w2 ⟨u, vs, rfl, hR, hE2, hcp⟩)
  obtain ⟨qt, ct, rfl, hLT⟩ := hR.lists
  have HLT := Lib.hid hLT
  have HE2 := Lib.hid hE2
  have HOR := Lib.hid (orders06 T HG.out qt ct w2 hLT w2.heap.size (Nat.le_refl _) T.length 0 0 (fun _ => false) none (w2.alloc (.map #[] 0)) (by omega) (by have := UO_6 hn6; omega) (fun j m e => by cases e) (Ext.alloc (Ext.refl _) _) (GoneM.made w2))
  obtain ⟨K, hK⟩ : ∃ K, K = (listO (rowT T) T.length none (restS (fun _ => false) T.length)).length := ⟨_, rfl⟩
  rw [← hK] at HOR HNA
  have HOR := Lib.hid (show Calls Tryz.prog 48 #[.slice qt T.length ct, .map (some w2.heap.size), .int .i64 (-1), .int .i64 0] (w2.alloc (.map #[] 0)) (fun e w' => e = .returned (.int .i64 (K : Nat)) ∧ Ext w2 w') from
    HOR.out.mono fun e w' h => ⟨h.1, Below.grown (Ext.alloc (Ext.refl w2) _) h.2.1 (by rw [size_alloc]; omega) (fun i hi => by cases hi; exact Nat.le_refl _)⟩)
  clear hR hcp hLT hE2 hK
  go_wp2_with (go_at_call 48; refine HOR.out.mono ?_; rintro e w3 ⟨rfl, hE3⟩)
  go_ret2
  exact RetE.fin (HE.out.trans (HE2.out.trans hE3)) (by rw [HNA.out, ← HZ.out]; rfl)
end Go.Proofs.YtppncdbhebgcaaaGreatDoor
