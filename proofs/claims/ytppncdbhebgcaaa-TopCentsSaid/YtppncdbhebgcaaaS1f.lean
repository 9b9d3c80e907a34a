
/- TopCents: slices.SortStableFunc of the numbers 0, 1, .. (at most 12), by royalties' closure. -/
import Derived.Test.YtppncdbhebgcaaaS1e
import Derived.Test.YtppncdbhebgcaaaCC
namespace Go.Proofs.Ytppncdbhebgcaaa
open Go.RowKit

/-- a slice of ints of one's own, sorted in its place -/
def RetScS (R : Int → Int → Prop) (B g n cap : Nat) (l : List Int) (w : World) (e : Ending) (w' : World) : Prop :=
  e = .returned (.tuple #[]) ∧ ∃ l', l'.Perm l ∧ l'.Pairwise R ∧ Ups g w w' ∧ w'.ownsRow B 3 1 (.slice (some ⟨g, 0, none⟩) n cap) n (intVs l')
/-- the numbers from place i on are in their places, those ahead are less than i -/
structure PosO (l : List Int) (i n : Nat) : Prop where
  at_ : ∀ t, i ≤ t → t < n → l.getD t 0 = (t : Int)
  lo : ∀ t, t < i → t < n → l.getD t 0 < (i : Int)
/-- the number i is at place j -/
structure PosI (l : List Int) (i j n : Nat) : Prop where
  at_ : ∀ t, i < t → t < n → l.getD t 0 = (t : Int)
  lo : ∀ t, t ≤ i → t < n → t ≠ j → l.getD t 0 < (i : Int)
  it : l.getD j 0 = (i : Int)
  lt : j < n
theorem PosI.start {l : List Int} {i n : Nat} (h : PosO l i n) (hi : i < n) : PosI l i i n :=
  ⟨fun t h1 h2 => h.at_ t (by omega) h2, fun t h1 h2 h3 => h.lo t (by omega) h2, h.at_ i (Nat.le_refl _) hi, hi⟩
theorem PosI.stop {l : List Int} {i j n : Nat} (h : PosI l i j n) : PosO l (i + 1) n :=
  ⟨fun t h1 h2 => h.at_ t (by omega) h2, fun t h1 h2 => by
    by_cases e : t = j
    · rw [e, h.it]; omega
    · have := h.lo t (by omega) h2 e; omega⟩
theorem PosI.less {l : List Int} {i p n : Nat} (h : PosI l i (p + 1) n) (hp : p + 1 ≤ i) : l.getD p 0 < l.getD (p + 1) 0 := by
  rw [h.it]
  exact h.lo p (by omega) (by have := h.lt; omega) (by omega)
theorem PosI.step {l : List Int} {i p n : Nat} (h : PosI l i (p + 1) n) (hl : l.length = n) (hp : p + 1 ≤ i) (hi : i < l.length) : PosI (swpL l (p + 1) p) i p n := by
  refine ⟨fun t h1 h2 => ?_, fun t h1 h2 h3 => ?_, ?_, by omega⟩
  · rw [swpL_get (by omega) (by omega), if_neg (by omega), if_neg (by omega)]
    exact h.at_ t h1 h2
  · rw [swpL_get (by omega) (by omega), if_neg (by omega)]
    by_cases e : p + 1 = t
    · rw [if_pos e]; exact h.lo p (by omega) (by omega) (by omega)
    · rw [if_neg e]; exact h.lo t h1 h2 (by omega)
  · rw [swpL_get (by omega) (by omega), if_pos rfl]
    exact h.it

set_option maxRecDepth 20000 in
set_option maxHeartbeats 3200000 in
theorem insCS (B g n cap : Nat) (l : List Int) (hl : l.length = n) (hn : n ≤ 1000) (w : World) (hO : w.ownsRow B 3 1 (.slice (some ⟨g, 0, none⟩) n cap) n (intVs l)) (bp bw : Nat) (R : Int → Int → Prop) (hRT : ∀ x y z, R x y → R y z → R x z) (cf : Int → Int → Int) (h1 : ∀ x ∈ l, ∀ y ∈ l, cf x y < 0 → R x y) (h2 : ∀ x ∈ l, ∀ y ∈ l, y < x → ¬cf x y < 0 → R y x) (hp0 : PosO l 1 n) (hcf : ∀ x ∈ l, ∀ y ∈ l, ∀ z, Ups g w z → Calls Try.prog 44 #[.int .i64 x, .int .i64 y, .pointer (some ⟨bp, 0, none⟩), .pointer (some ⟨bw, 0, none⟩)] z (RetE (.int .i64 (cf x y)) z)) :
    Calls Try.prog 84 #[.slice (some ⟨g, 0, none⟩) n cap, .int .i64 0, .int .i64 n, .func (.func 44) #[] #[.pointer (some ⟨bp, 0, none⟩), .pointer (some ⟨bw, 0, none⟩)]] w (RetScS R B g n cap l w) := by
  have HRT := Lib.hid hRT
  have H1 := Lib.hid h1
  have H2 := Lib.hid h2
  have HCF := Lib.hid hcf
  clear hRT h1 h2 hcf
  have HP0 := Lib.hid hp0
  clear hp0
  have HO := Lib.hid hO
  have HL : EqS l.length n := ⟨hl⟩
  clear hO hl
  go_enter Try.func84, Try.ntmps84
  go_wp2
  go_loopw [8] (fun a wr => ∃ (i : Nat) (m : List Int), a = .int .i64 i ∧ 1 ≤ i ∧ i ≤ n + 1 ∧ m.length = n ∧ m.Perm l ∧ SrtTo R m (min i n) ∧ PosO m i n ∧ Ups g w wr ∧ wr.ownsRow B 3 1 (.slice (some ⟨g, 0, none⟩) n cap) n (intVs m)) (fun a _ => n + 1 - (intOf a).toNat)
  case atStart => exact ⟨1, l, rfl, Nat.le_refl _, by omega, HL.out, List.Perm.refl _, fun a b hab hb => by omega, HP0.out, Ups.refl _ _, HO.out⟩
  case round =>
    obtain ⟨i, m, rfl, hi1, hin, hml, hp, hs, hpo, hU, hO⟩ := hrel
    have HPO := Lib.hid hpo
    clear hpo
    by_cases hlt : i < n
    · have hlt' : (i : Int) < (n : Int) := by omega
      have HSI := Lib.hid (InsI.start (R := R) (by rw [Nat.min_eq_left (by omega)] at hs; exact hs) (show i < m.length by omega))
      have HM : EqS m.length n := ⟨hml⟩
      have HP := Lib.hid hp
      have HU := Lib.hid hU
      have HO1 := Lib.hid hO
      clear hml hp hs hU hO
      go_wp2
      go_loopw [9] (fun a wr2 => ∃ (j : Nat) (k : List Int), a = .int .i64 j ∧ k.length = n ∧ k.Perm l ∧ InsI R k i j ∧ PosI k i j n ∧ Ups g w wr2 ∧ wr2.ownsRow B 3 1 (.slice (some ⟨g, 0, none⟩) n cap) n (intVs k)) (fun a _ => (intOf a).toNat)
      case atStart => exact ⟨i, m, rfl, HM.out, HP.out, HSI.out, PosI.start HPO.out hlt, HU.out, HO1.out⟩
      case round =>
        obtain ⟨j, k, rfl, hkl, hp, hI, hpi, hU, hO⟩ := hrel
        have HPI := Lib.hid hpi
        clear hpi
        have hji := hI.ji
        have HKL : EqS k.length n := ⟨hkl⟩
        have HI := Lib.hid hI
        have HP2 := Lib.hid hp
        have HU2 := Lib.hid hU
        have HO2 := Lib.hid hO
        clear hkl hp hI hU
        by_cases hj0 : j = 0
        · subst hj0
          have HST := Lib.hid (InsI.stop (R := R) HRT.out HI.out (Or.inl rfl))
          obtain ⟨x0, hx0⟩ := ExtW.of (Ext.refl wr)
          clear hO
          conv => arg 5; rw [hx0]
          have HX := Lib.hid hx0
          clear hx0
          go_upto_region 4 with (fail)
          refine wp_region_extW (by kernel_rfl) (by kernel_rfl) ?_
          repeat (go_big_quiet_step (fail))
          refine wpQuiet_nil ?_
          rintro _ ⟨x2, rfl⟩
          have hE2 : Ext wr x2.w := x2.h
          have HE2 := Lib.hid hE2
          clear hE2
          go_wp2
          go_roundw
          case rel => exact ⟨i + 1, k, by simp, by omega, by omega, HKL.out, HP2.out, by rw [Nat.min_eq_left (by omega)]; exact HST.out, PosI.stop HPI.out, HU2.out.trans (Ups.ext HE2.out), ownsRow_ext HO2.out HE2.out⟩
          case measure => simp [intOf]; omega
        · obtain ⟨p, rfl⟩ : ∃ p, j = p + 1 := ⟨j - 1, by omega⟩
          have hj1 : (0 : Int) < (p : Int) + 1 := by omega
          have hpn : p + 1 < k.length := by have := HKL.out; omega
          obtain ⟨c1, z1⟩ := ownsRow_cell hO (i := p + 1) hpn
          obtain ⟨c0, z0⟩ := ownsRow_cell hO (i := p) (by omega)
          rw [← getI_at hpn] at c1
          rw [← getI_at (show p < k.length by omega)] at c0
          have hstep := HI.out.step
          have hstop := InsI.stop (R := R) HRT.out HI.out
          rw [show p + 1 - 1 = p from rfl] at hstop
          have hperm := swpL_perm hpn (show p < k.length by omega)
          have hswp : swpL k (p + 1) p = (k.set (p + 1) (k.getD p 0)).set p (k.getD (p + 1) 0) := rfl
          have hbm : k.getD (p + 1) 0 ∈ l := HP2.out.subset (by rw [getI_at hpn]; exact List.getElem_mem hpn)
          have ham : k.getD p 0 ∈ l := HP2.out.subset (by rw [getI_at (show p < k.length by omega)]; exact List.getElem_mem (show p < k.length by omega))
          obtain ⟨b, hb⟩ : ∃ b, b = k.getD (p + 1) 0 := ⟨_, rfl⟩
          obtain ⟨a, ha⟩ : ∃ a, a = k.getD p 0 := ⟨_, rfl⟩
          rw [← hb] at hbm
          rw [← ha] at ham
          have hr1 := H1.out b hbm a ham
          have hr2 := H2.out b hbm a ham (by rw [ha, hb]; exact HPI.out.less hji)
          have hcx := fun x : ExtW wr => ExtW.call (x := x) (HCF.out b hbm a ham x.w (HU2.out.trans (Ups.ext x.h)))
          obtain ⟨cv, hcv⟩ : ∃ cv, cv = cf b a := ⟨_, rfl⟩
          rw [← hcv] at hr1 hr2 hcx
          have HR1 := Lib.hid hr1
          have HR2 := Lib.hid hr2
          have HLS := Lib.hid hcx
          clear hcv hr1 hr2 hcx hbm ham
          rw [← hb, ← ha] at hstep hstop hswp
          rw [← hb] at c1
          rw [← ha] at c0
          have HST := Lib.hid hstep
          have HSP := Lib.hid hstop
          have HPM := Lib.hid hperm
          have HSW := Lib.hid hswp
          have k1 := ExtW.cell c1
          have k0 := ExtW.cell c0
          have hlt1 : (p : Int) + 1 < (n : Int) := by have := HKL.out; omega
          have hlt0 : (p : Int) < (n : Int) := by omega
          have hw0 : IntKind.i64.wrap (p : Int) = (p : Int) := IntWalk.i64_in _ (by omega)
          have hp0 : (0 : Int) ≤ (p : Int) + 1 := by omega
          have hpt : ((p : Int) + 1).toNat = p + 1 := by omega
          obtain ⟨x0, hx0⟩ := ExtW.of (Ext.refl wr)
          clear hO hb ha hstep hstop hperm hswp c0 c1 z0 z1 hj0
          conv => arg 5; rw [hx0]
          have HX := Lib.hid hx0
          clear hx0
          by_cases hba : cv < 0
          · go_upto_region 4 with (fail)
            refine wp_region_extW (by kernel_rfl) (by kernel_rfl) ?_
            repeat (go_big_quiet_step ((go_at_call 44; exact HLS.out _)))
            refine wpQuiet_nil ?_
            rintro _ ⟨x2, rfl⟩
            obtain ⟨W4, hW4⟩ : ∃ W4, W4 = x2.w := ⟨_, rfl⟩
            have hE4 : Ext wr W4 := by rw [hW4]; exact x2.h
            rw [← hW4]
            have HE4 := Lib.hid hE4
            have HO4 := Lib.hid (ownsRow_ext HO2.out hE4)
            have HKC := Lib.hid (fun y (h : Ext W4 y) => (by
              have h3 := ownsRow_ext HO4.out h
              obtain ⟨c1, z1⟩ := ownsRow_cell h3 (i := p + 1) hpn
              exact ⟨(k1 ⟨y, hE4.trans h⟩), (k0 ⟨y, hE4.trans h⟩), z1, h3⟩ :
              y.cell? ⟨g, p + 1, none⟩ = some (.int .i64 b) ∧ y.cell? ⟨g, p, none⟩ = some (.int .i64 a) ∧ y.frozen? ⟨g, p + 1, none⟩ = false ∧ y.ownsRow B 3 1 (.slice (some ⟨g, 0, none⟩) n cap) n (intVs k)))
            clear hW4 hE4 k0 k1 HLS HX
            go_upto_region 6 with (fail)
            refine wp_region_facts2 16 [[], [], [], [], [3], [], [], [6], [5, 7], [8], [], [], [10, 11], [12], [0, 1], [14, 9]] [2, 4, 13, 15] 15 [9, 13] Ext (Ups g) (FL [Is (.slice (some ⟨g, 0, none⟩) n cap), Is (.int .i64 ((p : Int) + 1)), Is (.slice (some ⟨g, 0, none⟩) n cap), Is (.int .i64 ((p : Int) + 1)), Is (.int .i64 (p : Int)), Is (.slice (some ⟨g, 0, none⟩) n cap), Is (.int .i64 ((p : Int) + 1)), Is (.int .i64 (p : Int)), Is (.pointer (some ⟨g, p, none⟩)), Is (.int .i64 a), Is (.slice (some ⟨g, 0, none⟩) n cap), Is (.int .i64 ((p : Int) + 1)), Is (.pointer (some ⟨g, p + 1, none⟩)), Is (.int .i64 b), Is (.pointer (some ⟨g, p + 1, none⟩)), fun _ _ _ w => w.ownsRow B 3 1 (.slice (some ⟨g, 0, none⟩) n cap) n (intVs (k.set (p + 1) a))]) (by kernel_rfl) (by kernel_rfl) (by kernel_rfl) (fun _ _ => Ups.ext) (fun _ _ _ => Ext.trans) Ext.refl (Ups.refl _) (fun _ _ _ => Ups.trans) (fun _ _ h => h.size) ?_ ?_ ⟨?_, ?_, ?_, ?_, ?_, ?_, ?_, ?_, ?_, ?_, ?_, ?_, ?_, ?_, ?_, ?_, trivial⟩ ?_
            · exact FL.mono ⟨Is.mono, Is.mono, Is.mono, Is.mono, Is.mono, Is.mono, Is.mono, Is.mono, Is.mono, Is.mono, Is.mono, Is.mono, Is.mono, Is.mono, Is.mono, fun _ _ _ _ _ h hb => ownsRow_ext hb h, trivial⟩
            · intro j v s t w w' hj hr
              match j, hj with
              | 0, _ => exact fun h => h
              | 1, _ => exact fun h => h
              | 2, _ => exact fun h => h
              | 3, _ => exact fun h => h
              | 4, _ => exact fun h => h
              | 5, _ => exact fun h => h
              | 6, _ => exact fun h => h
              | 7, _ => exact fun h => h
              | 8, _ => exact fun h => h
              | 9, _ => exact fun h => h
              | 10, _ => exact fun h => h
              | 11, _ => exact fun h => h
              | 12, _ => exact fun h => h
              | 13, _ => exact fun h => h
              | 14, _ => exact fun h => h
              | 15, hj => exact absurd rfl hj
              | n + 16, _ => exact fun h => h
            · refine opF2_step ?_
              intro ys l0 h0 w' hr hs hf K hK
              clear hf
              clear hs
              simp only [fill, Act.put, dstO, List.take_succ_cons, List.take_zero, List.setIfInBounds_toArray, List.set_cons_zero, List.set_cons_succ, List.getElem?_cons_zero, Nat.zero_add, Nat.reduceAdd] at hK ⊢
              refine OpB.mk' ?_
              go_simp
              exact hK.out _ _ rfl (fun h => by cases h) (fun _ => Ext.refl _)
            · refine opF2_step ?_
              intro ys l0 h0 w' hr hs hf K hK
              clear hf
              clear hs
              simp only [fill, Act.put, dstO, List.take_succ_cons, List.take_zero, List.setIfInBounds_toArray, List.set_cons_zero, List.set_cons_succ, List.getElem?_cons_zero, List.getElem?_cons_succ, Nat.zero_add, Nat.reduceAdd] at hK ⊢
              refine OpB.mk' ?_
              go_simp
              exact hK.out _ _ rfl (fun h => by cases h) (fun _ => Ext.refl _)
            · refine opF2_step ?_
              intro ys l0 h0 w' hr hs hf K hK
              clear hf
              clear hs
              simp only [fill, Act.put, dstO, List.take_succ_cons, List.take_zero, List.setIfInBounds_toArray, List.set_cons_zero, List.set_cons_succ, List.getElem?_cons_zero, List.getElem?_cons_succ, Nat.zero_add, Nat.reduceAdd] at hK ⊢
              refine OpB.mk' ?_
              go_simp
              exact hK.out _ _ rfl (fun h => by cases h) (fun _ => Ext.refl _)
            · refine opF2_step ?_
              intro ys l0 h0 w' hr hs hf K hK
              clear hf
              clear hs
              simp only [fill, Act.put, dstO, List.take_succ_cons, List.take_zero, List.setIfInBounds_toArray, List.set_cons_zero, List.set_cons_succ, List.getElem?_cons_zero, List.getElem?_cons_succ, Nat.zero_add, Nat.reduceAdd] at hK ⊢
              refine OpB.mk' ?_
              go_simp
              exact hK.out _ _ rfl (fun h => by cases h) (fun _ => Ext.refl _)
            · refine opF2_step ?_
              intro ys l0 h0 w' hr hs hf K hK
              obtain ⟨f0, -⟩ := hf
              have e0 : ys 3 = _ := f0
              clear hs
              simp only [fill, Act.put, dstO, List.take_succ_cons, List.take_zero, List.setIfInBounds_toArray, List.set_cons_zero, List.set_cons_succ, List.getElem?_cons_zero, List.getElem?_cons_succ, Nat.zero_add, Nat.reduceAdd] at hK ⊢
              simp only [e0] at hK ⊢
              clear e0 f0
              refine OpB.mk' ?_
              go_simp
              exact hK.out _ _ rfl (fun h => by cases h) (fun _ => Ext.refl _)
            · refine opF2_step ?_
              intro ys l0 h0 w' hr hs hf K hK
              clear hf
              clear hs
              simp only [fill, Act.put, dstO, List.take_succ_cons, List.take_zero, List.setIfInBounds_toArray, List.set_cons_zero, List.set_cons_succ, List.getElem?_cons_zero, List.getElem?_cons_succ, Nat.zero_add, Nat.reduceAdd] at hK ⊢
              refine OpB.mk' ?_
              go_simp
              exact hK.out _ _ rfl (fun h => by cases h) (fun _ => Ext.refl _)
            · refine opF2_step ?_
              intro ys l0 h0 w' hr hs hf K hK
              clear hf
              clear hs
              simp only [fill, Act.put, dstO, List.take_succ_cons, List.take_zero, List.setIfInBounds_toArray, List.set_cons_zero, List.set_cons_succ, List.getElem?_cons_zero, List.getElem?_cons_succ, Nat.zero_add, Nat.reduceAdd] at hK ⊢
              refine OpB.mk' ?_
              go_simp
              exact hK.out _ _ rfl (fun h => by cases h) (fun _ => Ext.refl _)
            · refine opF2_step ?_
              intro ys l0 h0 w' hr hs hf K hK
              obtain ⟨f0, -⟩ := hf
              have e0 : ys 6 = _ := f0
              clear hs
              simp only [fill, Act.put, dstO, List.take_succ_cons, List.take_zero, List.setIfInBounds_toArray, List.set_cons_zero, List.set_cons_succ, List.getElem?_cons_zero, List.getElem?_cons_succ, Nat.zero_add, Nat.reduceAdd] at hK ⊢
              simp only [e0] at hK ⊢
              clear e0 f0
              refine OpB.mk' ?_
              go_simp
              exact hK.out _ _ rfl (fun h => by cases h) (fun _ => Ext.refl _)
            · refine opF2_step ?_
              intro ys l0 h0 w' hr hs hf K hK
              obtain ⟨f0, f1, -⟩ := hf
              have e0 : ys 5 = _ := f0
              have e1 : ys 7 = _ := f1
              clear hs
              simp only [fill, Act.put, dstO, List.take_succ_cons, List.take_zero, List.setIfInBounds_toArray, List.set_cons_zero, List.set_cons_succ, List.getElem?_cons_zero, List.getElem?_cons_succ, Nat.zero_add, Nat.reduceAdd] at hK ⊢
              simp only [e0, e1] at hK ⊢
              clear e0 e1 f0 f1
              refine OpB.mk' ?_
              go_simp
              exact hK.out _ _ rfl (fun h => by cases h) (fun _ => Ext.refl _)
            · refine opF2_step ?_
              intro ys l0 h0 w' hr hs hf K hK
              obtain ⟨f0, -⟩ := hf
              have e0 : ys 8 = _ := f0
              obtain ⟨j1, j0, jz, jo⟩ := HKC.out w' ((Ext.refl W4).drew.trans (hs (by first | exact Or.inr rfl | exact Or.inl rfl)))
              clear hs
              simp only [fill, Act.put, dstO, List.take_succ_cons, List.take_zero, List.setIfInBounds_toArray, List.set_cons_zero, List.set_cons_succ, List.getElem?_cons_zero, List.getElem?_cons_succ, Nat.zero_add, Nat.reduceAdd] at hK ⊢
              simp only [e0] at hK ⊢
              clear e0 f0
              refine OpB.mk' ?_
              go_simp
              exact hK.out _ _ rfl (fun h => by cases h) (fun _ => Ext.refl _)
            · refine opF2_step ?_
              intro ys l0 h0 w' hr hs hf K hK
              clear hf
              clear hs
              simp only [fill, Act.put, dstO, List.take_succ_cons, List.take_zero, List.setIfInBounds_toArray, List.set_cons_zero, List.set_cons_succ, List.getElem?_cons_zero, List.getElem?_cons_succ, Nat.zero_add, Nat.reduceAdd] at hK ⊢
              refine OpB.mk' ?_
              go_simp
              exact hK.out _ _ rfl (fun h => by cases h) (fun _ => Ext.refl _)
            · refine opF2_step ?_
              intro ys l0 h0 w' hr hs hf K hK
              clear hf
              clear hs
              simp only [fill, Act.put, dstO, List.take_succ_cons, List.take_zero, List.setIfInBounds_toArray, List.set_cons_zero, List.set_cons_succ, List.getElem?_cons_zero, List.getElem?_cons_succ, Nat.zero_add, Nat.reduceAdd] at hK ⊢
              refine OpB.mk' ?_
              go_simp
              exact hK.out _ _ rfl (fun h => by cases h) (fun _ => Ext.refl _)
            · refine opF2_step ?_
              intro ys l0 h0 w' hr hs hf K hK
              obtain ⟨f0, f1, -⟩ := hf
              have e0 : ys 10 = _ := f0
              have e1 : ys 11 = _ := f1
              clear hs
              simp only [fill, Act.put, dstO, List.take_succ_cons, List.take_zero, List.setIfInBounds_toArray, List.set_cons_zero, List.set_cons_succ, List.getElem?_cons_zero, List.getElem?_cons_succ, Nat.zero_add, Nat.reduceAdd] at hK ⊢
              simp only [e0, e1] at hK ⊢
              clear e0 e1 f0 f1
              refine OpB.mk' ?_
              go_simp
              exact hK.out _ _ rfl (fun h => by cases h) (fun _ => Ext.refl _)
            · refine opF2_step ?_
              intro ys l0 h0 w' hr hs hf K hK
              obtain ⟨f0, -⟩ := hf
              have e0 : ys 12 = _ := f0
              obtain ⟨j1, j0, jz, jo⟩ := HKC.out w' ((Ext.refl W4).drew.trans (hs (by first | exact Or.inr rfl | exact Or.inl rfl)))
              clear hs
              simp only [fill, Act.put, dstO, List.take_succ_cons, List.take_zero, List.setIfInBounds_toArray, List.set_cons_zero, List.set_cons_succ, List.getElem?_cons_zero, List.getElem?_cons_succ, Nat.zero_add, Nat.reduceAdd] at hK ⊢
              simp only [e0] at hK ⊢
              clear e0 f0
              refine OpB.mk' ?_
              go_simp
              exact hK.out _ _ rfl (fun h => by cases h) (fun _ => Ext.refl _)
            · refine opF2_step ?_
              intro ys l0 h0 w' hr hs hf K hK
              obtain ⟨f0, f1, -⟩ := hf
              have e0 : ys 0 = _ := f0
              have e1 : ys 1 = _ := f1
              clear hs
              simp only [fill, Act.put, dstO, List.take_succ_cons, List.take_zero, List.setIfInBounds_toArray, List.set_cons_zero, List.set_cons_succ, List.getElem?_cons_zero, List.getElem?_cons_succ, Nat.zero_add, Nat.reduceAdd] at hK ⊢
              simp only [e0, e1] at hK ⊢
              clear e0 e1 f0 f1
              refine OpB.mk' ?_
              go_simp
              exact hK.out _ _ rfl (fun h => by cases h) (fun _ => Ext.refl _)
            · refine opF2_step ?_
              intro ys l0 h0 w' hr hs hf K hK
              obtain ⟨f0, f1, -⟩ := hf
              have e0 : ys 14 = _ := f0
              have e1 : ys 9 = _ := f1
              obtain ⟨j1, j0, jz, jo⟩ := HKC.out w' ((Ext.refl W4).drew.trans (hs (by first | exact Or.inr rfl | exact Or.inl rfl)))
              clear hs
              simp only [fill, Act.put, dstO, List.take_succ_cons, List.take_zero, List.setIfInBounds_toArray, List.set_cons_zero, List.set_cons_succ, List.getElem?_cons_zero, List.getElem?_cons_succ, Nat.zero_add, Nat.reduceAdd] at hK ⊢
              simp only [e0, e1] at hK ⊢
              clear e0 e1 f0 f1
              refine OpB.mk' ?_
              go_simp
              refine hK.out undef _ ?_ (fun _ => (Ups.refl _ _).setCell _ _) (fun h => absurd rfl h)
              exact ownsRow_set jo
            intro ys l0 h0 w2 hr hf hsp
            obtain ⟨f2, f4, f13, f15, -⟩ := hf
            have e2 : ys 2 = _ := f2
            have e4 : ys 4 = _ := f4
            have e13 : ys 13 = _ := f13
            have hO2 := f15
            simp only [fill, Act.put, List.take_succ_cons, List.take_zero, List.setIfInBounds_toArray, List.set_cons_zero, List.set_cons_succ, Nat.zero_add, Nat.reduceAdd, List.drop_succ_cons, List.drop_zero]
            rw [e2, e4, e13]
            clear e2 f2 e4 f4 e13 f13
            clear hsp
            obtain ⟨d0, g0⟩ := ownsRow_cell hO2 (i := p) (by rw [List.length_set]; omega)
            have HO5 := Lib.hid hO2
            have hU5 : Ups g w w2 := (HU2.out.trans (Ups.ext HE4.out)).trans ((Ups.refl g W4).drew.trans hr)
            have HU5 := Lib.hid hU5
            clear hO2 hr hU5
            go_wp2
            go_roundw
            case rel => exact ⟨p, _, by simp, by rw [swpL_len]; exact HKL.out, HPM.out.trans HP2.out, HST.out (HR1.out hba), HPI.out.step HKL.out hji HI.out.il, HU5.out.setCell _ _, by rw [HSW.out]; exact ownsRow_set HO5.out⟩
            case measure => simp [intOf]
          · go_upto_region 4 with (fail)
            refine wp_region_extW (by kernel_rfl) (by kernel_rfl) ?_
            repeat (go_big_quiet_step ((go_at_call 44; exact HLS.out _)))
            refine wpQuiet_nil ?_
            rintro _ ⟨x2, rfl⟩
            have HE2 := Lib.hid x2.h
            have HS3 := Lib.hid (HSP.out (Or.inr (HR2.out (by omega))))
            clear k0 k1 HLS HX
            go_wp2
            go_roundw
            case rel => exact ⟨i + 1, k, by simp, by omega, by omega, HKL.out, HP2.out, by rw [Nat.min_eq_left (by omega)]; exact HS3.out, PosI.stop HPI.out, HU2.out.trans (Ups.ext HE2.out), ownsRow_ext HO2.out HE2.out⟩
            case measure => simp [intOf]; omega
    · have hge : ¬(i : Int) < (n : Int) := by omega
      have HF := Lib.hid (⟨m, hp, SrtTo.pairwise (by rw [Nat.min_eq_right (by omega)] at hs; rw [hml]; exact hs), hU, hO⟩ : ∃ l', l'.Perm l ∧ l'.Pairwise R ∧ Ups g w wr ∧ wr.ownsRow B 3 1 (.slice (some ⟨g, 0, none⟩) n cap) n (intVs l'))
      clear hml hp hs hU hO
      go_wp2
      (try simp only [Exit.inBlock, Exit.then])
      refine bodyPost_ret (results_none rfl _ _ _) rfl ?_
      exact ⟨rfl, HF.out⟩


set_option maxRecDepth 20000 in
set_option maxHeartbeats 1600000 in
theorem stableCS (B g n cap : Nat) (l : List Int) (hl : l.length = n) (hn : n ≤ 12) (w : World) (hO : w.ownsRow B 3 1 (.slice (some ⟨g, 0, none⟩) n cap) n (intVs l)) (bp bw : Nat) (R : Int → Int → Prop) (hRT : ∀ x y z, R x y → R y z → R x z) (cf : Int → Int → Int) (h1 : ∀ x ∈ l, ∀ y ∈ l, cf x y < 0 → R x y) (h2 : ∀ x ∈ l, ∀ y ∈ l, y < x → ¬cf x y < 0 → R y x) (hp0 : PosO l 1 n) (hcf : ∀ x ∈ l, ∀ y ∈ l, ∀ z, Ups g w z → Calls Try.prog 44 #[.int .i64 x, .int .i64 y, .pointer (some ⟨bp, 0, none⟩), .pointer (some ⟨bw, 0, none⟩)] z (RetE (.int .i64 (cf x y)) z)) :
    Calls Try.prog 61 #[.slice (some ⟨g, 0, none⟩) n cap, .int .i64 n, .func (.func 44) #[] #[.pointer (some ⟨bp, 0, none⟩), .pointer (some ⟨bw, 0, none⟩)]] w (RetScS R B g n cap l w) := by
  have HI := Lib.hid (insCS B g n cap l hl (by omega) w hO bp bw R hRT cf h1 h2 hp0 hcf)
  have hn' : ¬(20 : Int) ≤ (n : Int) := by omega
  have hn2 : ¬(20 : Int) < (n : Int) := by omega
  clear hl hO hRT h1 h2 hcf hp0
  go_enter Try.func61, Try.ntmps61
  go_wp2
  refine wp_loop_rounds 1 ?_
  rw [rounds_succ]
  go_wp2_with (go_at_call 84; refine HI.out.mono ?_; rintro e w2 ⟨rfl, hR⟩)
  refine wp_loop_rounds 1 ?_
  rw [rounds_succ]
  go_wp2
  (try simp only [Exit.inBlock, Exit.then])
  refine bodyPost_ret (results_none rfl _ _ _) rfl ?_
  exact ⟨rfl, hR⟩
set_option maxRecDepth 20000 in
set_option maxHeartbeats 1600000 in
theorem sortCS (B g n cap : Nat) (l : List Int) (hl : l.length = n) (hn : n ≤ 12) (w : World) (hO : w.ownsRow B 3 1 (.slice (some ⟨g, 0, none⟩) n cap) n (intVs l)) (bp bw : Nat) (R : Int → Int → Prop) (hRT : ∀ x y z, R x y → R y z → R x z) (cf : Int → Int → Int) (h1 : ∀ x ∈ l, ∀ y ∈ l, cf x y < 0 → R x y) (h2 : ∀ x ∈ l, ∀ y ∈ l, y < x → ¬cf x y < 0 → R y x) (hp0 : PosO l 1 n) (hcf : ∀ x ∈ l, ∀ y ∈ l, ∀ z, Ups g w z → Calls Try.prog 44 #[.int .i64 x, .int .i64 y, .pointer (some ⟨bp, 0, none⟩), .pointer (some ⟨bw, 0, none⟩)] z (RetE (.int .i64 (cf x y)) z)) :
    Calls Try.prog 43 #[.slice (some ⟨g, 0, none⟩) n cap, .func (.func 44) #[] #[.pointer (some ⟨bp, 0, none⟩), .pointer (some ⟨bw, 0, none⟩)]] w (RetScS R B g n cap l w) := by
  have HI := Lib.hid (stableCS B g n cap l hl hn w hO bp bw R hRT cf h1 h2 hp0 hcf)
  clear hl hO hRT h1 h2 hcf hp0
  go_enter Try.func43, Try.ntmps43
  go_wp2_with (go_at_call 61; refine HI.out.mono ?_; rintro e w2 ⟨rfl, hR⟩)
  (try simp only [Exit.inBlock, Exit.then])
  refine bodyPost_ret (results_none rfl _ _ _) rfl ?_
  exact ⟨rfl, hR⟩

def cmpN (x y : Int) : Int := if x < y then -1 else if y < x then 1 else 0
theorem cmp_neg {x y : Int} : cmpN x y < 0 ↔ x < y := by
  unfold cmpN
  by_cases h : x < y
  · rw [if_pos h]; exact ⟨fun _ => h, fun _ => by decide⟩
  · rw [if_neg h]
    by_cases h2 : y < x
    · rw [if_pos h2]; exact ⟨fun h' => by omega, fun h' => by omega⟩
    · rw [if_neg h2]; exact ⟨fun h' => by omega, fun h' => by omega⟩
set_option maxRecDepth 20000 in
theorem Compare_i (x y : Int) (w : World) : Calls Try.prog 45 #[.int .i64 x, .int .i64 y] w (RetE (.int .i64 (cmpN x y)) w) := by
  have HN := Lib.hid (fun z u => isNaN_i z u)
  by_cases h : x < y
  · have hg : ¬y < x := by omega
    have HC := Lib.hid (show cmpN x y = -1 from if_pos h)
    go_enter Try.func45, Try.ntmps45
    go_wp2_with (go_at_call 62; refine (HN.out _ _).mono ?_; rintro e w2 ⟨rfl, hE2⟩)
    go_ret
    exact RetE.fin (by first | exact (Ext.trans (by assumption) (by assumption)) | assumption) (by rw [HC.out]; rfl)
  · by_cases h2 : y < x
    · have HC := Lib.hid (show cmpN x y = 1 from by unfold cmpN; rw [if_neg h, if_pos h2])
      go_enter Try.func45, Try.ntmps45
      go_wp2_with (go_at_call 62; refine (HN.out _ _).mono ?_; rintro e w2 ⟨rfl, hE2⟩)
      go_ret
      exact RetE.fin (by first | exact (Ext.trans (by assumption) (by assumption)) | assumption) (by rw [HC.out]; rfl)
    · have HC := Lib.hid (show cmpN x y = 0 from by unfold cmpN; rw [if_neg h, if_neg h2])
      go_enter Try.func45, Try.ntmps45
      go_wp2_with (go_at_call 62; refine (HN.out _ _).mono ?_; rintro e w2 ⟨rfl, hE2⟩)
      go_ret
      exact RetE.fin (by first | exact (Ext.trans (by assumption) (by assumption)) | assumption) (by rw [HC.out]; rfl)

/-- what the closure reads -/
structure ClsS (w : World) (bp bw g n : Nat) (pool all : Int) (of : List Int) : Prop where
  mp : w.cell? ⟨bp, 0, none⟩ = some (.int .i64 pool)
  m0 : w.cell? ⟨bw, 0, none⟩ = some (.slice (some ⟨g, 0, none⟩) n n)
  m1 : w.cell? ⟨bw, 1, none⟩ = some (.int .i64 all)
  I : IntsAt w (some ⟨g, 0, none⟩) of
  len : of.length = n
set_option maxRecDepth 20000 in
set_option maxHeartbeats 1600000 in
theorem less10 (bp bw g n : Nat) (pool all : Int) (of : List Int) (x y : Nat) (w : World) (h : ClsS w bp bw g n pool all of) (hx : x < n) (hy : y < n) (hp : 0 ≤ pool ∧ pool ≤ 9999) (ha : 0 < all ∧ all ≤ 6000000) (ho : ∀ z ∈ of, 0 ≤ z ∧ z ≤ 6000000) :
    Calls Try.prog 44 #[.int .i64 (x : Int), .int .i64 (y : Int), .pointer (some ⟨bp, 0, none⟩), .pointer (some ⟨bw, 0, none⟩)] w (RetE (.int .i64 (cmpN (keyS pool all of y) (keyS pool all of x))) w) := by
  obtain ⟨mp, m0, m1, hI, hl⟩ := h
  have hx' : (x : Int) < (n : Int) := by omega
  have hy' : (y : Int) < (n : Int) := by omega
  obtain ⟨b', o', e, c1⟩ := hI.at x (by omega)
  cases e
  obtain ⟨b'', o'', e, c2⟩ := hI.at y (by omega)
  cases e
  rw [Nat.zero_add] at c1 c2
  have b1 := ho of[x] (List.getElem_mem _)
  have b2 := ho of[y] (List.getElem_mem _)
  have k1 : keyS pool all of x = pool * of[x] % all := by unfold keyS; rw [Int.toNat_natCast, List.getD_eq_getElem?_getD, List.getElem?_eq_getElem (by omega)]; rfl
  have k2 : keyS pool all of y = pool * of[y] % all := by unfold keyS; rw [Int.toNat_natCast, List.getD_eq_getElem?_getD, List.getElem?_eq_getElem (by omega)]; rfl
  rw [k1, k2]
  obtain ⟨u, hu⟩ : ∃ u, u = of[x] := ⟨_, rfl⟩
  obtain ⟨v, hv⟩ : ∃ v, v = of[y] := ⟨_, rfl⟩
  rw [← hu] at c1 b1 ⊢
  rw [← hv] at c2 b2 ⊢
  have p1 : 0 ≤ pool * u ∧ pool * u ≤ 9999 * 6000000 := ⟨Int.mul_nonneg hp.1 b1.1, Int.mul_le_mul hp.2 b1.2 b1.1 (by omega)⟩
  have p2 : 0 ≤ pool * v ∧ pool * v ≤ 9999 * 6000000 := ⟨Int.mul_nonneg hp.1 b2.1, Int.mul_le_mul hp.2 b2.2 b2.1 (by omega)⟩
  have w1 : IntKind.i64.wrap (pool * u) = pool * u := IntWalk.i64_in _ (by omega)
  have w2 : IntKind.i64.wrap (pool * v) = pool * v := IntWalk.i64_in _ (by omega)
  have r1 : (pool * u).tmod all = pool * u % all := Int.tmod_eq_emod_of_nonneg p1.1
  have r2 : (pool * v).tmod all = pool * v % all := Int.tmod_eq_emod_of_nonneg p2.1
  have n1 := Int.emod_nonneg (pool * u) (show all ≠ 0 by omega)
  have n2 := Int.emod_lt_of_pos (pool * u) ha.1
  have n3 := Int.emod_nonneg (pool * v) (show all ≠ 0 by omega)
  have n4 := Int.emod_lt_of_pos (pool * v) ha.1
  have w3 : IntKind.i64.wrap (pool * u % all) = pool * u % all := IntWalk.i64_in _ (by omega)
  have w4 : IntKind.i64.wrap (pool * v % all) = pool * v % all := IntWalk.i64_in _ (by omega)
  have ha0 : (all == 0) = false := by rw [beq_eq_false_iff_ne]; omega
  have HC := Lib.hid (fun z : ExtW w => ExtW.call (x := z) (Compare_i (pool * v % all) (pool * u % all) z.w))
  have a0 := ExtW.cell mp
  have a1 := ExtW.cell m0
  have a2 := ExtW.cell m1
  have a3 := ExtW.cell c1
  have a4 := ExtW.cell c2
  obtain ⟨x0, hx0⟩ := ExtW.of (Ext.refl w)
  clear mp m0 m1 c1 c2 hI hl ho hu hv k1 k2 b1 b2 p1 p2 n1 n2 n3 n4
  go_enter Try.func44, Try.ntmps44
  conv => arg 5; rw [hx0]
  clear hx0
  go_upto_region 1 with (fail)
  refine wp_region_extW (by kernel_rfl) (by kernel_rfl) ?_
  repeat (go_big_quiet_step ((go_at_call 45; exact HC.out _)))
  refine wpQuiet_nil ?_
  rintro _ ⟨z2, rfl⟩
  go_wp2
  go_ret
  exact RetE.fin z2.h rfl
end Go.Proofs.Ytppncdbhebgcaaa
