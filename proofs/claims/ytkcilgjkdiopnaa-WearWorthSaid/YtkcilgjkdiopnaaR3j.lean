/- The walk of the reference's choices. -/
import Derived.Test.YtkcilgjkdiopnaaR3i
namespace Go.Proofs.Ytkcilgjkdiopnaa
open Go.RowKit

def rcCells (c : RC) : List Value := [.int .i64 c.needles, .int .i64 c.cost, .int .i64 c.recs]
def rcVs (l : List RC) : List Value := l.flatMap rcCells
theorem rcVs_snoc (l : List RC) (a b c : Int) : rcVs l ++ [.int .i64 a, .int .i64 b, .int .i64 c] = rcVs (l ++ [⟨a, b, c⟩]) := by
  unfold rcVs
  rw [List.flatMap_append]
  simp [rcCells]
theorem rcVs_get (l : List RC) (i : Nat) (h : i < l.length) : (rcVs l)[i * 3]? = some (.int .i64 l[i].needles) ∧ (rcVs l)[i * 3 + 1]? = some (.int .i64 l[i].cost) ∧ (rcVs l)[i * 3 + 2]? = some (.int .i64 l[i].recs) := by
  induction l generalizing i with
  | nil => exact absurd h (by simp)
  | cons c l ih =>
    have e : rcVs (c :: l) = .int .i64 c.needles :: .int .i64 c.cost :: .int .i64 c.recs :: rcVs l := rfl
    cases i with
    | zero => rw [e]; exact ⟨rfl, rfl, rfl⟩
    | succ i =>
      have := ih i (by simpa using h)
      rw [e]
      rw [show (i + 1) * 3 = i * 3 + 3 by omega]
      simpa using this
/-- choices of the reference in a slice, three cells each -/
def RcsAt (w : World) (p : Option Addr) (l : List RC) : Prop :=
  ∀ i (h : i < l.length), ∃ b o, p = some ⟨b, o, none⟩ ∧ w.cell? ⟨b, o + i * 3, none⟩ = some (.int .i64 l[i].needles) ∧ w.cell? ⟨b, o + i * 3 + 1, none⟩ = some (.int .i64 l[i].cost) ∧ w.cell? ⟨b, o + i * 3 + 2, none⟩ = some (.int .i64 l[i].recs)
theorem RcsAt.ext {w w' : World} {p : Option Addr} {l : List RC} (h : RcsAt w p l) (hE : Ext w w') : RcsAt w' p l := by
  intro i hi
  obtain ⟨b, o, hp, h1, h2, h3⟩ := h i hi
  exact ⟨b, o, hp, hE.cell h1, hE.cell h2, hE.cell h3⟩
theorem rc_out {B : Nat} {W : World} {u : Value} {l : List RC} (ho : W.ownsRow B 126 3 u l.length (rcVs l)) : ∃ p c, u = .slice p l.length c ∧ RcsAt W p l := by
  have key : ∀ p c, u = .slice p l.length c → RcsAt W p l := by
    intro p c hv i hi
    obtain ⟨g, c1, he, k0⟩ := ownsRow_cell ho (i * 3) (by omega)
    obtain ⟨g', c', he', k1⟩ := ownsRow_cell ho (i * 3 + 1) (by omega)
    obtain ⟨g'', c'', he'', k2⟩ := ownsRow_cell ho (i * 3 + 2) (by omega)
    obtain ⟨m0, m1, m2⟩ := rcVs_get l i hi
    rw [hv] at he he' he''
    cases he; cases he'; cases he''
    exact ⟨g, 0, rfl, by rw [Nat.zero_add, k0, m0], by rw [Nat.zero_add, k1, m1], by rw [Nat.zero_add, k2, m2]⟩
  rcases ho.2 with ⟨hv, h0⟩ | ⟨g, cap, cur, hv, -⟩
  · exact ⟨none, 0, by rw [hv, h0], key none 0 (by rw [hv, h0])⟩
  · exact ⟨_, cap, hv, key _ cap hv⟩
theorem info_rc : (Try.prog.info? 126).map (fun i => (i.zero, i.size, i.bytes)) = some (some (.agg #[.int .i64 0, .int .i64 0, .int .i64 0]), 3, 24) := by kernel_rfl
theorem hnews3 {w w' : World} {v u x : Value} {t : TypeId} {g : Nat} (hE : Ext (w.alloc (.cells #[v, u, x] t)) w') (hg : g = w.heap.size) : ∀ j y, [v, u, x][j]? = some y → w'.cell? ((⟨g, 0, none⟩ : Addr).add j) = some y := by
  intro j y hj
  subst hg
  match j, hj with
  | 0, hj =>
    simp at hj
    subst hj
    have := hE.cell ((cell_of_heap (heap_new w (.cells #[v, u, x] t)) 0).trans rfl)
    simpa [Addr.add] using this
  | 1, hj =>
    simp at hj
    subst hj
    have := hE.cell ((cell_of_heap (heap_new w (.cells #[v, u, x] t)) 1).trans rfl)
    simpa [Addr.add] using this
  | 2, hj =>
    simp at hj
    subst hj
    have := hE.cell ((cell_of_heap (heap_new w (.cells #[v, u, x] t)) 2).trans rfl)
    simpa [Addr.add] using this
theorem one_rc (a b c : Int) : ∀ u ∈ [Value.int .i64 a, Value.int .i64 b, Value.int .i64 c], u.oneCell' = true := by
  intro u hu
  simp at hu
  rcases hu with rfl | rfl | rfl <;> rfl

set_option maxRecDepth 20000 in
set_option maxHeartbeats 16000000 in
theorem choicesR03 (v : Value) (X : Wr) (w : World) (hv : WrV w v X) (hX : ValidW X) :
    Calls Try.prog 97 #[v] w (fun e w' => ∃ p c, e = .returned (.slice p (refCh X X.weeks.toNat (2 ^ X.weeks.toNat)).length c) ∧ Ext w w' ∧ RcsAt w' p (refCh X X.weeks.toNat (2 ^ X.weeks.toNat))) := by
  have hx4 := hX.recs
  obtain ⟨n, hn⟩ : ∃ n : Nat, X.weeks = n := ⟨X.weeks.toNat, by have := hX.weeks; omega⟩
  have hn6 : n ≤ 6 := by have := hX.weeks; omega
  have hnt : X.weeks.toNat = n := by omega
  rw [hnt]
  have HX := Lib.hid hX
  have HN := Lib.hid hn
  have HNT := Lib.hid hnt
  have HV := Lib.hid hv
  obtain ⟨p, cp, q, d, rfl, hR, hG⟩ := hv
  have HG := Lib.hid hG
  have hpw := pow_i64 ⟨n, by omega⟩
  simp only at hpw
  obtain ⟨P2, hP2⟩ : ∃ P2, P2 = 2 ^ n := ⟨_, rfl⟩
  have hP64 : P2 ≤ 64 := by rw [hP2]; exact Nat.pow_le_pow_right (n := 2) (by decide) hn6
  rw [← hP2] at hpw ⊢
  have HP2 := Lib.hid hP2
  clear hX hR hG hn hnt hP2
  go_enter Try.func97, Try.ntmps97
  go_upto_region 1 with (fail)
  rw [HN.out] at HV ⊢
  generalize hW : World.alloc _ _ = W
  have hb0 : W.heap[w.heap.size]? = some (.cells #[.int .i64 n, .int .i64 X.price, .int .i64 X.age, .int .i64 X.step, .slice p X.rough.length cp, .slice q X.recs.length d] 25) := by rw [← hW]; exact heap_new _ _
  have hE : Ext w W := by rw [← hW]; exact Ext.alloc (Ext.refl w) _
  have HB0 := Lib.hid hb0
  have HE := Lib.hid hE
  obtain ⟨B, hB⟩ : ∃ B, B = W.heap.size := ⟨_, rfl⟩
  have HBB := Lib.hid hB
  clear hW hb0 hE hB
  go_wp2
  go_loopw [3, 4] (fun u i wr => ∃ S : Nat, S ≤ P2 ∧ i = .int .i64 S ∧ wr.ownsRow B 126 3 u (refCh X n S).length (rcVs (refCh X n S)) ∧ Ext W wr) (fun _ i _ => P2 - (intOf i).toNat)
  case atStart => exact ⟨0, Nat.zero_le _, rfl, World.ownsRow_nil _ _ _ _, Ext.refl _⟩
  case round =>
    obtain ⟨S, hS, rfl, ho, hEr⟩ := hrel
    have hb0 := heap_extB HB0.out hEr
    have d0 : wr.cell? ⟨w.heap.size, 0, none⟩ = some (.int .i64 n) := (cell_of_heap hb0 0).trans rfl
    have hlS := refCh_len X n S
    have HO := Lib.hid ho
    have HER := Lib.hid hEr
    by_cases hlt : S < P2
    · have hltI : (S : Int) < (P2 : Int) := by omega
      have d1 : wr.cell? ⟨w.heap.size, 1, none⟩ = some (.int .i64 X.price) := (cell_of_heap hb0 1).trans rfl
      have d2 : wr.cell? ⟨w.heap.size, 2, none⟩ = some (.int .i64 X.age) := (cell_of_heap hb0 2).trans rfl
      have d3 : wr.cell? ⟨w.heap.size, 3, none⟩ = some (.int .i64 X.step) := (cell_of_heap hb0 3).trans rfl
      have d4 : wr.cell? ⟨w.heap.size, 4, none⟩ = some (.slice p X.rough.length cp) := (cell_of_heap hb0 4).trans rfl
      have d5 : wr.cell? ⟨w.heap.size, 5, none⟩ = some (.slice q X.recs.length d) := (cell_of_heap hb0 5).trans rfl
      have HGD := Lib.hid (grindsR03 _ X S wr (WrV.mono _ _ _ _ (HE.out.trans hEr) HV.out) HX.out (by omega))
      rw [HNT.out] at HGD
      have HMN := Lib.hid (fun y => manyR03 S y (by omega))
      clear ho hEr hb0
      go_upto_region 6 with (go_at_call 107; refine HGD.out.mono ?_; rintro e W1 ⟨pg, cg, rfl, hE1, hl1⟩)
      have HE1 := Lib.hid hE1
      have HL1 := Lib.hid hl1
      clear hE1 hl1 d0 d1 d2 d3 d4 d5 HGD
      go_upto_region 7 with (go_at_call 108; refine (HMN.out _).mono ?_; rintro e w' ⟨rfl, m1, rfl⟩; have hb2 : ((W1.drewN m1).alloc (.cells #[.int .i64 0, .int .i64 0, .int .i64 0] 126)).heap[W1.heap.size]? = some (.cells #[.int .i64 0, .int .i64 0, .int .i64 0] 126) := heap_new _ _; have c0 := (cell_of_heap hb2 0).trans rfl; have c1 := (cell_of_heap hb2 1).trans rfl; have c2 := (cell_of_heap hb2 2).trans rfl; have f0 := cell_frozen hb2 0; have f1 := cell_frozen hb2 1; have f2 := cell_frozen hb2 2)
      generalize hW6 : World.setCell _ _ _ = W6
      have hE6 : Ext W1 W6 := by rw [← hW6]; exact (((Ext.alloc ((Qt.refl W1).drewN m1).ext _).set (Nat.le_refl _)).set (Nat.le_refl _)).set (Nat.le_refl _)
      have hb6 : W6.heap[W1.heap.size]? = some (.cells #[.int .i64 (popc S), .int .i64 0, .int .i64 0] 126) := by rw [← hW6]; exact heap_set (heap_set (heap_set hb2 rfl) rfl) rfl
      obtain ⟨C, hC⟩ : ∃ C, C = W1.heap.size := ⟨_, rfl⟩
      rw [← hC] at hb6 ⊢
      have HC := Lib.hid hC
      have HB6 := Lib.hid hb6
      have HE6 := Lib.hid hE6
      clear hW6 hE6 hb6 hC hb2 c0 c1 c2 f0 f1 f2 HMN
      go_wp2
      go_loopw [7, 8] (fun g i x => ∃ m : Nat, m ≤ X.recs.length ∧ i = .int .i64 m ∧ g = .bool (rgood X S n m) ∧ x.heap[C]? = some (.cells #[.int .i64 (popc S), .int .i64 (rcost X S n m), .int .i64 (rrep X S n m)] 126) ∧ Ext W1 x) (fun _ i _ => X.recs.length - (intOf i).toNat)
      case atStart => exact ⟨0, Nat.zero_le _, rfl, rfl, HB6.out, HE6.out⟩
      case round =>
        clear HB6 HE6 W6
        obtain ⟨m, hm, rfl, rfl, hbx, hEx⟩ := hrel
        have hEw := HER.out.trans (HE1.out.trans hEx)
        have hb0 := heap_extB HB0.out hEw
        have d5 : wr.cell? ⟨w.heap.size, 5, none⟩ = some (.slice q X.recs.length d) := (cell_of_heap hb0 5).trans rfl
        obtain ⟨gd, hgd⟩ : ∃ gd, gd = rgood X S n m := ⟨_, rfl⟩
        obtain ⟨rc, hrc⟩ : ∃ rc, rc = rcost X S n m := ⟨_, rfl⟩
        obtain ⟨rr, hrr⟩ : ∃ rr, rr = rrep X S n m := ⟨_, rfl⟩
        have hrcb := rcost_bd HX.out S n m
        have hrrb := rrep_bd X S n m
        rw [← hrc, ← hrr] at hbx
        rw [← hrc] at hrcb
        rw [← hrr] at hrrb
        conv => arg 4; rw [← hgd]
        by_cases hlm : m < X.recs.length
        · have hlmI : (m : Int) < (X.recs.length : Int) := by omega
          obtain ⟨rb, ro, q', c', rfl, -, -, h2, -⟩ := HG.out m hlm
          rw [show X.recs[m].price = (recW X m).price from by rw [recW_eq hlm]] at h2
          have hpb := rec_bd HX.out m
          have hfb := fewX_bd X S n m
          have hmb := mulp_bd hfb ⟨hpb.1, hpb.2.1⟩
          have hrc1 : rcost X S n (m + 1) = rc + fewX X S n m * (recW X m).price := by rw [hrc]; rfl
          have hrr1 : rrep X S n (m + 1) = rr + fewX X S n m := by rw [hrr]; rfl
          obtain ⟨fx, hfx⟩ : ∃ fx, fx = fewX X S n m := ⟨_, rfl⟩
          obtain ⟨pr, hpr⟩ : ∃ pr, pr = (recW X m).price := ⟨_, rfl⟩
          have hFW : Calls Try.prog 109 #[.agg #[.int .i64 n, .int .i64 X.price, .int .i64 X.age, .int .i64 X.step, .slice p X.rough.length cp, .slice (some ⟨rb, ro, none⟩) X.recs.length d], .slice pg n cg, .int .i64 m] wr (RetE (.int .i64 fx) wr) := by
            have := fewestR03 _ X S m pg cg wr (WrV.mono _ _ _ _ (HE.out.trans hEw) HV.out) HX.out hlm (by rw [HNT.out]; exact HL1.out.ext hEx)
            rw [HNT.out] at this
            rw [hfx]
            exact this
          rw [← hfx, ← hpr] at hrc1 hmb
          rw [← hfx] at hrr1 hfb
          rw [← hpr] at h2
          obtain ⟨mp, hmp⟩ : ∃ mp, IntKind.i64.wrap (fx * pr) = mp ∧ fx * pr = mp := ⟨fx * pr, IntWalk.i64_in _ (by omega), rfl⟩
          rw [hmp.2] at hrc1 hmb
          have hmw := hmp.1
          have d0 : wr.cell? ⟨w.heap.size, 0, none⟩ = some (.int .i64 n) := (cell_of_heap hb0 0).trans rfl
          have d1 : wr.cell? ⟨w.heap.size, 1, none⟩ = some (.int .i64 X.price) := (cell_of_heap hb0 1).trans rfl
          have d2 : wr.cell? ⟨w.heap.size, 2, none⟩ = some (.int .i64 X.age) := (cell_of_heap hb0 2).trans rfl
          have d3 : wr.cell? ⟨w.heap.size, 3, none⟩ = some (.int .i64 X.step) := (cell_of_heap hb0 3).trans rfl
          have d4 : wr.cell? ⟨w.heap.size, 4, none⟩ = some (.slice p X.rough.length cp) := (cell_of_heap hb0 4).trans rfl
          have h2w := (HE.out.trans hEw).cell h2
          have HFW := Lib.hid hFW
          have HGO := Lib.hid hgd.symm
          have HFX := Lib.hid hfx.symm
          have HRC1 := Lib.hid hrc1
          have HRR1 := Lib.hid hrr1
          have HBX := Lib.hid hbx
          have HEX := Lib.hid hEx
          have HD5 := Lib.hid d5
          have HH2 := Lib.hid h2w
          clear hgd hrc hrr hrc1 hrr1 hfx hpr hmp h2 hFW hbx hEx hEw hb0 h2w hpb
          go_upto_region 12 with (go_at_call 109; refine HFW.out.mono ?_; rintro e W2 ⟨rfl, hE2⟩)
          have hb2 := heap_extB HBX.out hE2
          have HB2 := Lib.hid hb2
          have e1 : W2.cell? ⟨C, 1, none⟩ = some (.int .i64 rc) := (cell_of_heap hb2 1).trans rfl
          have e2 : W2.cell? ⟨C, 2, none⟩ = some (.int .i64 rr) := (cell_of_heap hb2 2).trans rfl
          have f1 := cell_frozen hb2 1
          have f2 := cell_frozen hb2 2
          have s5 := hE2.cell HD5.out
          have s6 := hE2.cell HH2.out
          have HE2 := Lib.hid (HEX.out.trans hE2)
          clear hb2 hE2 d0 d1 d2 d3 d4 d5 HFW HBX HEX
          by_cases hsg : 0 ≤ fx
          · have HSG := Lib.hid hsg
            cases gd with
            | true =>
              go_upto_region 13 with (fail)
              go_still_tail 12, (by kernel_rfl)
              change wpList _ _ _ _ _ W2.drew
              obtain ⟨wd, hwd⟩ : ∃ wd, wd = W2.drew := ⟨_, rfl⟩
              have hEd : Ext W2 wd := by rw [hwd]; exact (Ext.refl W2).drew
              have hbd := heap_extB HB2.out hEd
              have HBD := Lib.hid hbd
              have g1 : wd.cell? ⟨C, 1, none⟩ = some (.int .i64 rc) := (cell_of_heap hbd 1).trans rfl
              have g2 : wd.cell? ⟨C, 2, none⟩ = some (.int .i64 rr) := (cell_of_heap hbd 2).trans rfl
              have gf1 := cell_frozen hbd 1
              have gf2 := cell_frozen hbd 2
              have HED := Lib.hid hEd
              rw [← hwd]
              clear hwd hEd hbd e1 e2 f1 f2 s5 s6
              go_wp2
              generalize hW3 : World.setCell _ _ _ = W3
              have hb3 : W3.heap[C]? = some (.cells #[.int .i64 (popc S), .int .i64 (rc + mp), .int .i64 (rr + fx)] 126) := by rw [← hW3]; exact heap_set (heap_set HBD.out rfl) rfl
              have hE3 : Ext W1 W3 := by rw [← hW3]; exact ((HE2.out.trans HED.out).set (by have := HC.out; omega)).set (by have := HC.out; omega)
              have HB3 := Lib.hid hb3
              have HE3 := Lib.hid hE3
              clear hW3 hb3 hE3
              go_roundw
              case rel => exact ⟨m + 1, by omega, by go_num, by rw [rgood_succ, HGO.out, HFX.out]; simp [HSG.out], by rw [HRC1.out, HRR1.out]; exact HB3.out, HE3.out⟩
              case measure => simp [intOf]; omega
            | false =>
              go_upto_region 13 with (fail)
              go_still_tail 12, (by kernel_rfl)
              change wpList _ _ _ _ _ W2.drew
              obtain ⟨wd, hwd⟩ : ∃ wd, wd = W2.drew := ⟨_, rfl⟩
              have hEd : Ext W2 wd := by rw [hwd]; exact (Ext.refl W2).drew
              have hbd := heap_extB HB2.out hEd
              have HBD := Lib.hid hbd
              have g1 : wd.cell? ⟨C, 1, none⟩ = some (.int .i64 rc) := (cell_of_heap hbd 1).trans rfl
              have g2 : wd.cell? ⟨C, 2, none⟩ = some (.int .i64 rr) := (cell_of_heap hbd 2).trans rfl
              have gf1 := cell_frozen hbd 1
              have gf2 := cell_frozen hbd 2
              have HED := Lib.hid hEd
              rw [← hwd]
              clear hwd hEd hbd e1 e2 f1 f2 s5 s6
              go_wp2
              generalize hW3 : World.setCell _ _ _ = W3
              have hb3 : W3.heap[C]? = some (.cells #[.int .i64 (popc S), .int .i64 (rc + mp), .int .i64 (rr + fx)] 126) := by rw [← hW3]; exact heap_set (heap_set HBD.out rfl) rfl
              have hE3 : Ext W1 W3 := by rw [← hW3]; exact ((HE2.out.trans HED.out).set (by have := HC.out; omega)).set (by have := HC.out; omega)
              have HB3 := Lib.hid hb3
              have HE3 := Lib.hid hE3
              clear hW3 hb3 hE3
              go_roundw
              case rel => exact ⟨m + 1, by omega, by go_num, by rw [rgood_succ, HGO.out, HFX.out]; simp [HSG.out], by rw [HRC1.out, HRR1.out]; exact HB3.out, HE3.out⟩
              case measure => simp [intOf]; omega
          · have HSG := Lib.hid hsg
            cases gd with
            | true =>
              go_upto_region 13 with (fail)
              go_still_tail 12, (by kernel_rfl)
              change wpList _ _ _ _ _ W2.drew
              obtain ⟨wd, hwd⟩ : ∃ wd, wd = W2.drew := ⟨_, rfl⟩
              have hEd : Ext W2 wd := by rw [hwd]; exact (Ext.refl W2).drew
              have hbd := heap_extB HB2.out hEd
              have HBD := Lib.hid hbd
              have g1 : wd.cell? ⟨C, 1, none⟩ = some (.int .i64 rc) := (cell_of_heap hbd 1).trans rfl
              have g2 : wd.cell? ⟨C, 2, none⟩ = some (.int .i64 rr) := (cell_of_heap hbd 2).trans rfl
              have gf1 := cell_frozen hbd 1
              have gf2 := cell_frozen hbd 2
              have HED := Lib.hid hEd
              rw [← hwd]
              clear hwd hEd hbd e1 e2 f1 f2 s5 s6
              go_wp2
              generalize hW3 : World.setCell _ _ _ = W3
              have hb3 : W3.heap[C]? = some (.cells #[.int .i64 (popc S), .int .i64 (rc + mp), .int .i64 (rr + fx)] 126) := by rw [← hW3]; exact heap_set (heap_set HBD.out rfl) rfl
              have hE3 : Ext W1 W3 := by rw [← hW3]; exact ((HE2.out.trans HED.out).set (by have := HC.out; omega)).set (by have := HC.out; omega)
              have HB3 := Lib.hid hb3
              have HE3 := Lib.hid hE3
              clear hW3 hb3 hE3
              go_roundw
              case rel => exact ⟨m + 1, by omega, by go_num, by rw [rgood_succ, HGO.out, HFX.out]; simp [HSG.out], by rw [HRC1.out, HRR1.out]; exact HB3.out, HE3.out⟩
              case measure => simp [intOf]; omega
            | false =>
              go_upto_region 13 with (fail)
              go_still_tail 12, (by kernel_rfl)
              change wpList _ _ _ _ _ W2.drew
              obtain ⟨wd, hwd⟩ : ∃ wd, wd = W2.drew := ⟨_, rfl⟩
              have hEd : Ext W2 wd := by rw [hwd]; exact (Ext.refl W2).drew
              have hbd := heap_extB HB2.out hEd
              have HBD := Lib.hid hbd
              have g1 : wd.cell? ⟨C, 1, none⟩ = some (.int .i64 rc) := (cell_of_heap hbd 1).trans rfl
              have g2 : wd.cell? ⟨C, 2, none⟩ = some (.int .i64 rr) := (cell_of_heap hbd 2).trans rfl
              have gf1 := cell_frozen hbd 1
              have gf2 := cell_frozen hbd 2
              have HED := Lib.hid hEd
              rw [← hwd]
              clear hwd hEd hbd e1 e2 f1 f2 s5 s6
              go_wp2
              generalize hW3 : World.setCell _ _ _ = W3
              have hb3 : W3.heap[C]? = some (.cells #[.int .i64 (popc S), .int .i64 (rc + mp), .int .i64 (rr + fx)] 126) := by rw [← hW3]; exact heap_set (heap_set HBD.out rfl) rfl
              have hE3 : Ext W1 W3 := by rw [← hW3]; exact ((HE2.out.trans HED.out).set (by have := HC.out; omega)).set (by have := HC.out; omega)
              have HB3 := Lib.hid hb3
              have HE3 := Lib.hid hE3
              clear hW3 hb3 hE3
              go_roundw
              case rel => exact ⟨m + 1, by omega, by go_num, by rw [rgood_succ, HGO.out, HFX.out]; simp [HSG.out], by rw [HRC1.out, HRR1.out]; exact HB3.out, HE3.out⟩
              case measure => simp [intOf]; omega
        · obtain rfl : m = X.recs.length := by omega
          have c0 : wr.cell? ⟨C, 0, none⟩ = some (.int .i64 (popc S)) := (cell_of_heap hbx 0).trans rfl
          have c1 : wr.cell? ⟨C, 1, none⟩ = some (.int .i64 rc) := (cell_of_heap hbx 1).trans rfl
          have c2 : wr.cell? ⟨C, 2, none⟩ = some (.int .i64 rr) := (cell_of_heap hbx 2).trans rfl
          have ho2 := ownsRow_ext HO.out (HE1.out.trans hEx)
          obtain ⟨i1, hi1, hy0, hy1, hy2⟩ := info_parts info_rc
          have hm1 : (refCh X n S).length + 1 ≤ maxLen := by unfold maxLen; omega
          have hm2 : ((refCh X n S).length + 1) * 24 ≤ 140737488355328 := by omega
          have hBr : B ≤ wr.heap.size := by have := hEw.size; have := HBB.out; omega
          have HO2 := Lib.hid ho2
          have HEW := Lib.hid hEw
          have HRC := Lib.hid hrc
          have HRR := Lib.hid hrr
          have HGO := Lib.hid hgd.symm
          clear ho2 hEw hEx hbx hb0 hrc hrr hgd hrcb hrrb
          cases gd with
          | true =>
            go_wp2_with ((at_builtin; refine wpList_append_lies rfl (.tmp 58) (.tmp 60) 116 rfl B 126 i1 (.agg #[.int .i64 0, .int .i64 0, .int .i64 0]) 3 24 Try.underlying116 hi1 hy0 hy1 hy2 rfl (by decide) _ (refCh X n S).length (rcVs (refCh X n S)) rfl (ownsRow_ext HO2.out (Ext.alloc (Ext.refl _) _)) ⟨_, 0, none⟩ 1 1 [.int .i64 (popc S), .int .i64 rc, .int .i64 rr] rfl rfl (hnews3 (Ext.refl _) rfl) (one_rc _ _ _) (by decide) hm1 hm2 (by rw [size_alloc]; omega) ?_; intro g9 cap9 w1 hown hgr hat; have HOWN := Lib.hid hown; have HGR := Lib.hid hgr; have HAT := Lib.hid hat; clear hown hgr hat))
            have hEn : Ext W w1 := Fr.ext (HEW.out.trans (Ext.alloc (Ext.refl _) _)) (grown_fr HGR.out) (fun b e => by have := (HO2.out.lt b e).1; have := HBB.out; omega)
            have HEN := Lib.hid hEn
            have hown2 := HOWN.out
            rw [rcVs_snoc, HRC.out, HRR.out, ← refCh_good HGO.out] at hown2
            have hl2 : (refCh X n S).length + 1 = (refCh X n (S + 1)).length := by rw [refCh_good HGO.out]; simp
            rw [hl2] at hown2
            have HOW := Lib.hid hown2
            clear hEn hown2 HOWN HGR HAT hi1 hy0 hy1 hy2
            have HL2 := Lib.hid hl2
            clear hl2
            go_roundw
            case rel => exact ⟨S + 1, by omega, by go_num, by rw [HL2.out]; exact HOW.out, HEN.out⟩
            case measure => simp [intOf]; omega
          | false =>
            go_wp2
            go_roundw
            case rel => exact ⟨S + 1, by omega, by go_num, by rw [refCh_bad HGO.out]; exact HO2.out, HEW.out⟩
            case measure => simp [intOf]; omega
    · obtain rfl : S = P2 := by omega
      clear ho hEr hb0
      go_wp2
      go_ret
      obtain ⟨p, c, hu, hpa⟩ := rc_out HO.out
      exact ⟨p, c, by rw [hu]; rfl, HE.out.trans HER.out, hpa⟩
end Go.Proofs.Ytkcilgjkdiopnaa
