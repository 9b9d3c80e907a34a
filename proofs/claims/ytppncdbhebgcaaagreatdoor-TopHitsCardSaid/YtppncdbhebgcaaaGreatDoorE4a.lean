
/- slices.SortFunc of at most 12 ints, by charts.Order's closure. -/
import Derived.Test.YtppncdbhebgcaaaGreatDoorCC
namespace Go.Proofs.YtppncdbhebgcaaaGreatDoor
open Go.RowKit

/-- a slice of ints of one's own, sorted in its place -/
def RetScO (R : Int → Int → Prop) (B g n cap : Nat) (l : List Int) (w : World) (e : Ending) (w' : World) : Prop :=
  e = .returned (.tuple #[]) ∧ ∃ l', l'.Perm l ∧ l'.Pairwise R ∧ Ups g w w' ∧ w'.ownsRow B 3 1 (.slice (some ⟨g, 0, none⟩) n cap) n (intVs l')

set_option maxRecDepth 20000 in
set_option maxHeartbeats 3200000 in
theorem insCO (B g n cap : Nat) (l : List Int) (hl : l.length = n) (hn : n ≤ 1000) (w : World) (hO : w.ownsRow B 3 1 (.slice (some ⟨g, 0, none⟩) n cap) n (intVs l)) (bt : Nat) (R : Int → Int → Prop) (hRT : ∀ x y z, R x y → R y z → R x z) (cf : Int → Int → Int) (h1 : ∀ x ∈ l, ∀ y ∈ l, cf x y < 0 → R x y) (h2 : ∀ x ∈ l, ∀ y ∈ l, ¬cf x y < 0 → R y x) (hcf : ∀ x ∈ l, ∀ y ∈ l, ∀ z, Ups g w z → Calls Tryz.prog 50 #[.int .i64 x, .int .i64 y, .pointer (some ⟨bt, 0, none⟩)] z (RetE (.int .i64 (cf x y)) z)) :
    Calls Tryz.prog 101 #[.slice (some ⟨g, 0, none⟩) n cap, .int .i64 0, .int .i64 n, .func (.func 50) #[] #[.pointer (some ⟨bt, 0, none⟩)]] w (RetScO R B g n cap l w) := by
  have HRT := Lib.hid hRT
  have H1 := Lib.hid h1
  have H2 := Lib.hid h2
  have HCF := Lib.hid hcf
  clear hRT h1 h2 hcf
  have HO := Lib.hid hO
  have HL : EqS l.length n := ⟨hl⟩
  clear hO hl
  go_enter Tryz.func101, Tryz.ntmps101
  go_wp2
  go_loopw [8] (fun a wr => ∃ (i : Nat) (m : List Int), a = .int .i64 i ∧ 1 ≤ i ∧ i ≤ n + 1 ∧ m.length = n ∧ m.Perm l ∧ SrtTo R m (min i n) ∧ Ups g w wr ∧ wr.ownsRow B 3 1 (.slice (some ⟨g, 0, none⟩) n cap) n (intVs m)) (fun a _ => n + 1 - (intOf a).toNat)
  case atStart => exact ⟨1, l, rfl, Nat.le_refl _, by omega, HL.out, List.Perm.refl _, fun a b hab hb => by omega, Ups.refl _ _, HO.out⟩
  case round =>
    obtain ⟨i, m, rfl, hi1, hin, hml, hp, hs, hU, hO⟩ := hrel
    by_cases hlt : i < n
    · have hlt' : (i : Int) < (n : Int) := by omega
      have HSI := Lib.hid (InsI.start (R := R) (by rw [Nat.min_eq_left (by omega)] at hs; exact hs) (show i < m.length by omega))
      have HM : EqS m.length n := ⟨hml⟩
      have HP := Lib.hid hp
      have HU := Lib.hid hU
      have HO1 := Lib.hid hO
      clear hml hp hs hU hO
      go_wp2
      go_loopw [9] (fun a wr2 => ∃ (j : Nat) (k : List Int), a = .int .i64 j ∧ k.length = n ∧ k.Perm l ∧ InsI R k i j ∧ Ups g w wr2 ∧ wr2.ownsRow B 3 1 (.slice (some ⟨g, 0, none⟩) n cap) n (intVs k)) (fun a _ => (intOf a).toNat)
      case atStart => exact ⟨i, m, rfl, HM.out, HP.out, HSI.out, HU.out, HO1.out⟩
      case round =>
        obtain ⟨j, k, rfl, hkl, hp, hI, hU, hO⟩ := hrel
        have hji := hI.ji
        have HKL : EqS k.length n := ⟨hkl⟩
        have HI := Lib.hid hI
        have HP2 := Lib.hid hp
        have HU2 := Lib.hid hU
        have HO2 := Lib.hid hO
        clear hkl hp hI hU
        by_cases hj0 : j = 0
        · subst hj0
          have HST := Lib.hid (InsI.stop (R := R) HRT.out HI.out (Or.inl rfl))
          obtain ⟨x0, hx0⟩ := ExtW.of (Ext.refl wr)
          clear hO
          conv => arg 5; rw [hx0]
          have HX := Lib.hid hx0
          clear hx0
          go_upto_region 4 with (fail)
          refine wp_region_extW (by kernel_rfl) (by kernel_rfl) ?_
          repeat (go_big_quiet_step (fail))
          refine wpQuiet_nil ?_
          rintro _ ⟨x2, rfl⟩
          have hE2 : Ext wr x2.w := x2.h
          have HE2 := Lib.hid hE2
          clear hE2
          go_wp2
          go_roundw
          case rel => exact ⟨i + 1, k, by simp, by omega, by omega, HKL.out, HP2.out, by rw [Nat.min_eq_left (by omega)]; exact HST.out, HU2.out.trans (Ups.ext HE2.out), ownsRow_ext HO2.out HE2.out⟩
          case measure => simp [intOf]; omega
        · obtain ⟨p, rfl⟩ : ∃ p, j = p + 1 := ⟨j - 1, by omega⟩
          have hj1 : (0 : Int) < (p : Int) + 1 := by omega
          have hpn : p + 1 < k.length := by have := HKL.out; omega
          obtain ⟨c1, z1⟩ := ownsRow_cell hO (i := p + 1) hpn
          obtain ⟨c0, z0⟩ := ownsRow_cell hO (i := p) (by omega)
          rw [← getI_at hpn] at c1
          rw [← getI_at (show p < k.length by omega)] at c0
          have hstep := HI.out.step
          have hstop := InsI.stop (R := R) HRT.out HI.out
          rw [show p + 1 - 1 = p from rfl] at hstop
          have hperm := swpL_perm hpn (show p < k.length by omega)
          have hswp : swpL k (p + 1) p = (k.set (p + 1) (k.getD p 0)).set p (k.getD (p + 1) 0) := rfl
          have hbm : k.getD (p + 1) 0 ∈ l := HP2.out.subset (by rw [getI_at hpn]; exact List.getElem_mem hpn)
          have ham : k.getD p 0 ∈ l := HP2.out.subset (by rw [getI_at (show p < k.length by omega)]; exact List.getElem_mem (show p < k.length by omega))
          obtain ⟨b, hb⟩ : ∃ b, b = k.getD (p + 1) 0 := ⟨_, rfl⟩
          obtain ⟨a, ha⟩ : ∃ a, a = k.getD p 0 := ⟨_, rfl⟩
          rw [← hb] at hbm
          rw [← ha] at ham
          have hr1 := H1.out b hbm a ham
          have hr2 := H2.out b hbm a ham
          have hcx := fun x : ExtW wr => ExtW.call (x := x) (HCF.out b hbm a ham x.w (HU2.out.trans (Ups.ext x.h)))
          obtain ⟨cv, hcv⟩ : ∃ cv, cv = cf b a := ⟨_, rfl⟩
          rw [← hcv] at hr1 hr2 hcx
          have HR1 := Lib.hid hr1
          have HR2 := Lib.hid hr2
          have HLS := Lib.hid hcx
          clear hcv hr1 hr2 hcx hbm ham
          rw [← hb, ← ha] at hstep hstop hswp
          rw [← hb] at c1
          rw [← ha] at c0
          have HST := Lib.hid hstep
          have HSP := Lib.hid hstop
          have HPM := Lib.hid hperm
          have HSW := Lib.hid hswp
          have k1 := ExtW.cell c1
          have k0 := ExtW.cell c0
          have hlt1 : (p : Int) + 1 < (n : Int) := by have := HKL.out; omega
          have hlt0 : (p : Int) < (n : Int) := by omega
          have hw0 : IntKind.i64.wrap (p : Int) = (p : Int) := IntWalk.i64_in _ (by omega)
          have hp0 : (0 : Int) ≤ (p : Int) + 1 := by omega
          have hpt : ((p : Int) + 1).toNat = p + 1 := by omega
          obtain ⟨x0, hx0⟩ := ExtW.of (Ext.refl wr)
          clear hO hb ha hstep hstop hperm hswp c0 c1 z0 z1 hj0
          conv => arg 5; rw [hx0]
          have HX := Lib.hid hx0
          clear hx0
          by_cases hba : cv < 0
          · go_upto_region 4 with (fail)
            refine wp_region_extW (by kernel_rfl) (by kernel_rfl) ?_
            repeat (go_big_quiet_step ((go_at_call 50; exact HLS.out _)))
            refine wpQuiet_nil ?_
            rintro _ ⟨x2, rfl⟩
            obtain ⟨W4, hW4⟩ : ∃ W4, W4 = x2.w := ⟨_, rfl⟩
            have hE4 : Ext wr W4 := by rw [hW4]; exact x2.h
            rw [← hW4]
            have HE4 := Lib.hid hE4
            have HO4 := Lib.hid (ownsRow_ext HO2.out hE4)
            have HKC := Lib.hid (fun y (h : Ext W4 y) => (by
              have h3 := ownsRow_ext HO4.out h
              obtain ⟨c1, z1⟩ := ownsRow_cell h3 (i := p + 1) hpn
              exact ⟨(k1 ⟨y, hE4.trans h⟩), (k0 ⟨y, hE4.trans h⟩), z1, h3⟩ :
              y.cell? ⟨g, p + 1, none⟩ = some (.int .i64 b) ∧ y.cell? ⟨g, p, none⟩ = some (.int .i64 a) ∧ y.frozen? ⟨g, p + 1, none⟩ = false ∧ y.ownsRow B 3 1 (.slice (some ⟨g, 0, none⟩) n cap) n (intVs k)))
            clear hW4 hE4 k0 k1 HLS HX
            go_upto_region 6 with (fail)
            refine wp_region_facts2 16 [[], [], [], [], [3], [], [], [6], [5, 7], [8], [], [], [10, 11], [12], [0, 1], [14, 9]] [2, 4, 13, 15] 15 [9, 13] Ext (Ups g) (FL [Is (.slice (some ⟨g, 0, none⟩) n cap), Is (.int .i64 ((p : Int) + 1)), Is (.slice (some ⟨g, 0, none⟩) n cap), Is (.int .i64 ((p : Int) + 1)), Is (.int .i64 (p : Int)), Is (.slice (some ⟨g, 0, none⟩) n cap), Is (.int .i64 ((p : Int) + 1)), Is (.int .i64 (p : Int)), Is (.pointer (some ⟨g, p, none⟩)), Is (.int .i64 a), Is (.slice (some ⟨g, 0, none⟩) n cap), Is (.int .i64 ((p : Int) + 1)), Is (.pointer (some ⟨g, p + 1, none⟩)), Is (.int .i64 b), Is (.pointer (some ⟨g, p + 1, none⟩)), fun _ _ _ w => w.ownsRow B 3 1 (.slice (some ⟨g, 0, none⟩) n cap) n (intVs (k.set (p + 1) a))]) (by kernel_rfl) (by kernel_rfl) (by kernel_rfl) (fun _ _ => Ups.ext) (fun _ _ _ => Ext.trans) Ext.refl (Ups.refl _) (fun _ _ _ => Ups.trans) (fun _ _ h => h.size) ?_ ?_ ⟨?_, ?_, ?_, ?_, ?_, ?_, ?_, ?_, ?_, ?_, ?_, ?_, ?_, ?_, ?_, ?_, trivial⟩ ?_
            · exact FL.mono ⟨Is.mono, Is.mono, Is.mono, Is.mono, Is.mono, Is.mono, Is.mono, Is.mono, Is.mono, Is.mono, Is.mono, Is.mono, Is.mono, Is.mono, Is.mono, fun _ _ _ _ _ h hb => ownsRow_ext hb h, trivial⟩
            · intro j v s t w w' hj hr
              match j, hj with
              | 0, _ => exact fun h => h
              | 1, _ => exact fun h => h
              | 2, _ => exact fun h => h
              | 3, _ => exact fun h => h
              | 4, _ => exact fun h => h
              | 5, _ => exact fun h => h
              | 6, _ => exact fun h => h
              | 7, _ => exact fun h => h
              | 8, _ => exact fun h => h
              | 9, _ => exact fun h => h
              | 10, _ => exact fun h => h
              | 11, _ => exact fun h => h
              | 12, _ => exact fun h => h
              | 13, _ => exact fun h => h
              | 14, _ => exact fun h => h
              | 15, hj => exact absurd rfl hj
              | n + 16, _ => exact fun h => h
            · refine opF2_step ?_
              intro ys l0 h0 w' hr hs hf K hK
              clear hf
              clear hs
              simp only [fill, Act.put, dstO, List.take_succ_cons, List.take_zero, List.setIfInBounds_toArray, List.set_cons_zero, List.set_cons_succ, List.getElem?_cons_zero, Nat.zero_add, Nat.reduceAdd] at hK ⊢
              refine OpB.mk' ?_
              go_simp
              exact hK.out _ _ rfl (fun h => by cases h) (fun _ => Ext.refl _)
            · refine opF2_step ?_
              intro ys l0 h0 w' hr hs hf K hK
              clear hf
              clear hs
              simp only [fill, Act.put, dstO, List.take_succ_cons, List.take_zero, List.setIfInBounds_toArray, List.set_cons_zero, List.set_cons_succ, List.getElem?_cons_zero, List.getElem?_cons_succ, Nat.zero_add, Nat.reduceAdd] at hK ⊢
              refine OpB.mk' ?_
              go_simp
              exact hK.out _ _ rfl (fun h => by cases h) (fun _ => Ext.refl _)
            · refine opF2_step ?_
              intro ys l0 h0 w' hr hs hf K hK
              clear hf
              clear hs
              simp only [fill, Act.put, dstO, List.take_succ_cons, List.take_zero, List.setIfInBounds_toArray, List.set_cons_zero, List.set_cons_succ, List.getElem?_cons_zero, List.getElem?_cons_succ, Nat.zero_add, Nat.reduceAdd] at hK ⊢
              refine OpB.mk' ?_
              go_simp
              exact hK.out _ _ rfl (fun h => by cases h) (fun _ => Ext.refl _)
            · refine opF2_step ?_
              intro ys l0 h0 w' hr hs hf K hK
              clear hf
              clear hs
              simp only [fill, Act.put, dstO, List.take_succ_cons, List.take_zero, List.setIfInBounds_toArray, List.set_cons_zero, List.set_cons_succ, List.getElem?_cons_zero, List.getElem?_cons_succ, Nat.zero_add, Nat.reduceAdd] at hK ⊢
              refine OpB.mk' ?_
              go_simp
              exact hK.out _ _ rfl (fun h => by cases h) (fun _ => Ext.refl _)
            · refine opF2_step ?_
              intro ys l0 h0 w' hr hs hf K hK
              obtain ⟨f0, -⟩ := hf
              have e0 : ys 3 = _ := f0
              clear hs
              simp only [fill, Act.put, dstO, List.take_succ_cons, List.take_zero, List.setIfInBounds_toArray, List.set_cons_zero, List.set_cons_succ, List.getElem?_cons_zero, List.getElem?_cons_succ, Nat.zero_add, Nat.reduceAdd] at hK ⊢
              simp only [e0] at hK ⊢
              clear e0 f0
              refine OpB.mk' ?_
              go_simp
              exact hK.out _ _ rfl (fun h => by cases h) (fun _ => Ext.refl _)
            · refine opF2_step ?_
              intro ys l0 h0 w' hr hs hf K hK
              clear hf
              clear hs
              simp only [fill, Act.put, dstO, List.take_succ_cons, List.take_zero, List.setIfInBounds_toArray, List.set_cons_zero, List.set_cons_succ, List.getElem?_cons_zero, List.getElem?_cons_succ, Nat.zero_add, Nat.reduceAdd] at hK ⊢
              refine OpB.mk' ?_
              go_simp
              exact hK.out _ _ rfl (fun h => by cases h) (fun _ => Ext.refl _)
            · refine opF2_step ?_
              intro ys l0 h0 w' hr hs hf K hK
              clear hf
              clear hs
              simp only [fill, Act.put, dstO, List.take_succ_cons, List.take_zero, List.setIfInBounds_toArray, List.set_cons_zero, List.set_cons_succ, List.getElem?_cons_zero, List.getElem?_cons_succ, Nat.zero_add, Nat.reduceAdd] at hK ⊢
              refine OpB.mk' ?_
              go_simp
              exact hK.out _ _ rfl (fun h => by cases h) (fun _ => Ext.refl _)
            · refine opF2_step ?_
              intro ys l0 h0 w' hr hs hf K hK
              obtain ⟨f0, -⟩ := hf
              have e0 : ys 6 = _ := f0
              clear hs
              simp only [fill, Act.put, dstO, List.take_succ_cons, List.take_zero, List.setIfInBounds_toArray, List.set_cons_zero, List.set_cons_succ, List.getElem?_cons_zero, List.getElem?_cons_succ, Nat.zero_add, Nat.reduceAdd] at hK ⊢
              simp only [e0] at hK ⊢
              clear e0 f0
              refine OpB.mk' ?_
              go_simp
              exact hK.out _ _ rfl (fun h => by cases h) (fun _ => Ext.refl _)
            · refine opF2_step ?_
              intro ys l0 h0 w' hr hs hf K hK
              obtain ⟨f0, f1, -⟩ := hf
              have e0 : ys 5 = _ := f0
              have e1 : ys 7 = _ := f1
              clear hs
              simp only [fill, Act.put, dstO, List.take_succ_cons, List.take_zero, List.setIfInBounds_toArray, List.set_cons_zero, List.set_cons_succ, List.getElem?_cons_zero, List.getElem?_cons_succ, Nat.zero_add, Nat.reduceAdd] at hK ⊢
              simp only [e0, e1] at hK ⊢
              clear e0 e1 f0 f1
              refine OpB.mk' ?_
              go_simp
              exact hK.out _ _ rfl (fun h => by cases h) (fun _ => Ext.refl _)
            · refine opF2_step ?_
              intro ys l0 h0 w' hr hs hf K hK
              obtain ⟨f0, -⟩ := hf
              have e0 : ys 8 = _ := f0
              obtain ⟨j1, j0, jz, jo⟩ := HKC.out w' ((Ext.refl W4).drew.trans (hs (by first | exact Or.inr rfl | exact Or.inl rfl)))
              clear hs
              simp only [fill, Act.put, dstO, List.take_succ_cons, List.take_zero, List.setIfInBounds_toArray, List.set_cons_zero, List.set_cons_succ, List.getElem?_cons_zero, List.getElem?_cons_succ, Nat.zero_add, Nat.reduceAdd] at hK ⊢
              simp only [e0] at hK ⊢
              clear e0 f0
              refine OpB.mk' ?_
              go_simp
              exact hK.out _ _ rfl (fun h => by cases h) (fun _ => Ext.refl _)
            · refine opF2_step ?_
              intro ys l0 h0 w' hr hs hf K hK
              clear hf
              clear hs
              simp only [fill, Act.put, dstO, List.take_succ_cons, List.take_zero, List.setIfInBounds_toArray, List.set_cons_zero, List.set_cons_succ, List.getElem?_cons_zero, List.getElem?_cons_succ, Nat.zero_add, Nat.reduceAdd] at hK ⊢
              refine OpB.mk' ?_
              go_simp
              exact hK.out _ _ rfl (fun h => by cases h) (fun _ => Ext.refl _)
            · refine opF2_step ?_
              intro ys l0 h0 w' hr hs hf K hK
              clear hf
              clear hs
              simp only [fill, Act.put, dstO, List.take_succ_cons, List.take_zero, List.setIfInBounds_toArray, List.set_cons_zero, List.set_cons_succ, List.getElem?_cons_zero, List.getElem?_cons_succ, Nat.zero_add, Nat.reduceAdd] at hK ⊢
              refine OpB.mk' ?_
              go_simp
              exact hK.out _ _ rfl (fun h => by cases h) (fun _ => Ext.refl _)
            · refine opF2_step ?_
              intro ys l0 h0 w' hr hs hf K hK
              obtain ⟨f0, f1, -⟩ := hf
              have e0 : ys 10 = _ := f0
              have e1 : ys 11 = _ := f1
              clear hs
              simp only [fill, Act.put, dstO, List.take_succ_cons, List.take_zero, List.setIfInBounds_toArray, List.set_cons_zero, List.set_cons_succ, List.getElem?_cons_zero, List.getElem?_cons_succ, Nat.zero_add, Nat.reduceAdd] at hK ⊢
              simp only [e0, e1] at hK ⊢
              clear e0 e1 f0 f1
              refine OpB.mk' ?_
              go_simp
              exact hK.out _ _ rfl (fun h => by cases h) (fun _ => Ext.refl _)
            · refine opF2_step ?_
              intro ys l0 h0 w' hr hs hf K hK
              obtain ⟨f0, -⟩ := hf
              have e0 : ys 12 = _ := f0
              obtain ⟨j1, j0, jz, jo⟩ := HKC.out w' ((Ext.refl W4).drew.trans (hs (by first | exact Or.inr rfl | exact Or.inl rfl)))
              clear hs
              simp only [fill, Act.put, dstO, List.take_succ_cons, List.take_zero, List.setIfInBounds_toArray, List.set_cons_zero, List.set_cons_succ, List.getElem?_cons_zero, List.getElem?_cons_succ, Nat.zero_add, Nat.reduceAdd] at hK ⊢
              simp only [e0] at hK ⊢
              clear e0 f0
              refine OpB.mk' ?_
              go_simp
              exact hK.out _ _ rfl (fun h => by cases h) (fun _ => Ext.refl _)
            · refine opF2_step ?_
              intro ys l0 h0 w' hr hs hf K hK
              obtain ⟨f0, f1, -⟩ := hf
              have e0 : ys 0 = _ := f0
              have e1 : ys 1 = _ := f1
              clear hs
              simp only [fill, Act.put, dstO, List.take_succ_cons, List.take_zero, List.setIfInBounds_toArray, List.set_cons_zero, List.set_cons_succ, List.getElem?_cons_zero, List.getElem?_cons_succ, Nat.zero_add, Nat.reduceAdd] at hK ⊢
              simp only [e0, e1] at hK ⊢
              clear e0 e1 f0 f1
              refine OpB.mk' ?_
              go_simp
              exact hK.out _ _ rfl (fun h => by cases h) (fun _ => Ext.refl _)
            · refine opF2_step ?_
              intro ys l0 h0 w' hr hs hf K hK
              obtain ⟨f0, f1, -⟩ := hf
              have e0 : ys 14 = _ := f0
              have e1 : ys 9 = _ := f1
              obtain ⟨j1, j0, jz, jo⟩ := HKC.out w' ((Ext.refl W4).drew.trans (hs (by first | exact Or.inr rfl | exact Or.inl rfl)))
              clear hs
              simp only [fill, Act.put, dstO, List.take_succ_cons, List.take_zero, List.setIfInBounds_toArray, List.set_cons_zero, List.set_cons_succ, List.getElem?_cons_zero, List.getElem?_cons_succ, Nat.zero_add, Nat.reduceAdd] at hK ⊢
              simp only [e0, e1] at hK ⊢
              clear e0 e1 f0 f1
              refine OpB.mk' ?_
              go_simp
              refine hK.out undef _ ?_ (fun _ => (Ups.refl _ _).setCell _ _) (fun h => absurd rfl h)
              exact ownsRow_set jo
            intro ys l0 h0 w2 hr hf hsp
            obtain ⟨f2, f4, f13, f15, -⟩ := hf
            have e2 : ys 2 = _ := f2
            have e4 : ys 4 = _ := f4
            have e13 : ys 13 = _ := f13
            have hO2 := f15
            simp only [fill, Act.put, List.take_succ_cons, List.take_zero, List.setIfInBounds_toArray, List.set_cons_zero, List.set_cons_succ, Nat.zero_add, Nat.reduceAdd, List.drop_succ_cons, List.drop_zero]
            rw [e2, e4, e13]
            clear e2 f2 e4 f4 e13 f13
            clear hsp
            obtain ⟨d0, g0⟩ := ownsRow_cell hO2 (i := p) (by rw [List.length_set]; omega)
            have HO5 := Lib.hid hO2
            have hU5 : Ups g w w2 := (HU2.out.trans (Ups.ext HE4.out)).trans ((Ups.refl g W4).drew.trans hr)
            have HU5 := Lib.hid hU5
            clear hO2 hr hU5
            go_wp2
            go_roundw
            case rel => exact ⟨p, _, by simp, by rw [swpL_len]; exact HKL.out, HPM.out.trans HP2.out, HST.out (HR1.out hba), HU5.out.setCell _ _, by rw [HSW.out]; exact ownsRow_set HO5.out⟩
            case measure => simp [intOf]
          · go_upto_region 4 with (fail)
            refine wp_region_extW (by kernel_rfl) (by kernel_rfl) ?_
            repeat (go_big_quiet_step ((go_at_call 50; exact HLS.out _)))
            refine wpQuiet_nil ?_
            rintro _ ⟨x2, rfl⟩
            have HE2 := Lib.hid x2.h
            have HS3 := Lib.hid (HSP.out (Or.inr (HR2.out (by omega))))
            clear k0 k1 HLS HX
            go_wp2
            go_roundw
            case rel => exact ⟨i + 1, k, by simp, by omega, by omega, HKL.out, HP2.out, by rw [Nat.min_eq_left (by omega)]; exact HS3.out, HU2.out.trans (Ups.ext HE2.out), ownsRow_ext HO2.out HE2.out⟩
            case measure => simp [intOf]; omega
    · have hge : ¬(i : Int) < (n : Int) := by omega
      have HF := Lib.hid (⟨m, hp, SrtTo.pairwise (by rw [Nat.min_eq_right (by omega)] at hs; rw [hml]; exact hs), hU, hO⟩ : ∃ l', l'.Perm l ∧ l'.Pairwise R ∧ Ups g w wr ∧ wr.ownsRow B 3 1 (.slice (some ⟨g, 0, none⟩) n cap) n (intVs l'))
      clear hml hp hs hU hO
      go_wp2
      (try simp only [Exit.inBlock, Exit.then])
      refine bodyPost_ret (results_none rfl _ _ _) rfl ?_
      exact ⟨rfl, HF.out⟩

set_option maxRecDepth 20000 in
set_option maxHeartbeats 1600000 in
theorem pdqCO (B g n cap : Nat) (l : List Int) (lim : Int) (hl : l.length = n) (hn : n ≤ 12) (w : World) (hO : w.ownsRow B 3 1 (.slice (some ⟨g, 0, none⟩) n cap) n (intVs l)) (bt : Nat) (R : Int → Int → Prop) (hRT : ∀ x y z, R x y → R y z → R x z) (cf : Int → Int → Int) (h1 : ∀ x ∈ l, ∀ y ∈ l, cf x y < 0 → R x y) (h2 : ∀ x ∈ l, ∀ y ∈ l, ¬cf x y < 0 → R y x) (hcf : ∀ x ∈ l, ∀ y ∈ l, ∀ z, Ups g w z → Calls Tryz.prog 50 #[.int .i64 x, .int .i64 y, .pointer (some ⟨bt, 0, none⟩)] z (RetE (.int .i64 (cf x y)) z)) :
    Calls Tryz.prog 80 #[.slice (some ⟨g, 0, none⟩) n cap, .int .i64 0, .int .i64 n, .int .i64 lim, .func (.func 50) #[] #[.pointer (some ⟨bt, 0, none⟩)]] w (RetScO R B g n cap l w) := by
  have HI := Lib.hid (insCO B g n cap l hl (by omega) w hO bt R hRT cf h1 h2 hcf)
  have hn' : (n : Int) ≤ 12 := by omega
  have hw : IntKind.i64.wrap (n : Int) = (n : Int) := IntWalk.i64_in _ (by omega)
  clear hl hO hRT h1 h2 hcf
  go_enter Tryz.func80, Tryz.ntmps80
  go_wp2
  refine wp_loop_rounds 1 ?_
  rw [rounds_succ]
  go_wp2_with (go_at_call 101; refine HI.out.mono ?_; rintro e w2 ⟨rfl, hR⟩)
  (try simp only [Exit.inBlock, Exit.then])
  refine bodyPost_ret (results_none rfl _ _ _) rfl ?_
  exact ⟨rfl, hR⟩
set_option maxRecDepth 20000 in
set_option maxHeartbeats 1600000 in
theorem sortCO (B g n cap : Nat) (l : List Int) (hl : l.length = n) (hn : n ≤ 12) (w : World) (hO : w.ownsRow B 3 1 (.slice (some ⟨g, 0, none⟩) n cap) n (intVs l)) (bt : Nat) (R : Int → Int → Prop) (hRT : ∀ x y z, R x y → R y z → R x z) (cf : Int → Int → Int) (h1 : ∀ x ∈ l, ∀ y ∈ l, cf x y < 0 → R x y) (h2 : ∀ x ∈ l, ∀ y ∈ l, ¬cf x y < 0 → R y x) (hcf : ∀ x ∈ l, ∀ y ∈ l, ∀ z, Ups g w z → Calls Tryz.prog 50 #[.int .i64 x, .int .i64 y, .pointer (some ⟨bt, 0, none⟩)] z (RetE (.int .i64 (cf x y)) z)) :
    Calls Tryz.prog 49 #[.slice (some ⟨g, 0, none⟩) n cap, .func (.func 50) #[] #[.pointer (some ⟨bt, 0, none⟩)]] w (RetScO R B g n cap l w) := by
  have HI := Lib.hid (fun lim y (h : Ext w y) => pdqCO B g n cap l lim hl hn y (ownsRow_ext hO h) bt R hRT cf h1 h2 (fun a ha b hb z hz => hcf a ha b hb z ((Ups.ext h).trans hz)))
  have HN := Lib.hid (fun y => len_small n hn y)
  have hw : IntKind.u64.wrap (n : Int) = (n : Int) := by rw [IntKind.wrap_u64]; omega
  clear hl hO hRT h1 h2 hcf
  go_enter Tryz.func49, Tryz.ntmps49
  go_wp2_with (first
    | (go_at_call 81; refine (HN.out _).mono ?_; rintro e w2 ⟨⟨lim, rfl⟩, hE2⟩)
    | (go_at_call 80; refine (HI.out _ _ hE2).mono ?_; rintro e w3 ⟨rfl, l', h1, h2, h3, h4⟩))
  (try simp only [Exit.inBlock, Exit.then])
  refine bodyPost_ret (results_none rfl _ _ _) rfl ?_
  exact ⟨rfl, l', h1, h2, (Ups.ext hE2).trans h3, h4⟩
end Go.Proofs.YtppncdbhebgcaaaGreatDoor
