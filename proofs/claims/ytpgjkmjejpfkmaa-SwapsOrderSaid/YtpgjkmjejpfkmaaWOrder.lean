/- The walk of SwapsOrder. -/
import Derived.Test.YtpgjkmjejpfkmaaOA
import Derived.StillTailTactics
namespace Go.Proofs.Ytpgjkmjejpfkmaa
open Go.RowKit

set_option maxRecDepth 100000 in
set_option maxHeartbeats 8000000 in
theorem SwapsOrder07 (v : Value) (S : Swap) (goal title : Int) (w : World) (hv : SwapV w v S) (hM : Big S) :
    Calls Try.prog 6 #[v, .agg #[.int .i64 goal, .int .i64 title]] w (RetE (.bool true) w) := by
  have HV := Lib.hid hv
  obtain ⟨p0, c0, p1, c1, p2, c2, p3, c3, rfl, h0, h1, h2, h3⟩ := hv
  clear h0 h1 h2 h3
  go_enter Try.func6, Try.ntmps6
  go_upto_region 1 with (fail)
  have hn := heap_new1 w (.cells #[.slice p0 S.boxes.length c0, .slice p1 S.stock.length c1, .slice p2 S.earn.length c2, .slice p3 S.keeps.length c3, .int .i64 S.changes] 26) (.cells #[.int .i64 goal, .int .i64 title] 41)
  have hn2 := heap_new2 w (.cells #[.slice p0 S.boxes.length c0, .slice p1 S.stock.length c1, .slice p2 S.earn.length c2, .slice p3 S.keeps.length c3, .int .i64 S.changes] 26) (.cells #[.int .i64 goal, .int .i64 title] 41)
  obtain ⟨W, hW⟩ : ∃ W, W = (w.alloc (.cells #[.slice p0 S.boxes.length c0, .slice p1 S.stock.length c1, .slice p2 S.earn.length c2, .slice p3 S.keeps.length c3, .int .i64 S.changes] 26)).alloc (.cells #[.int .i64 goal, .int .i64 title] 41) := ⟨_, rfl⟩
  have hE : Ext w W := by rw [hW]; exact Ext.alloc (Ext.alloc (Ext.refl w) _) _
  rw [← hW] at hn hn2 ⊢
  have q0 := ExtW.cell (v := .slice p0 S.boxes.length c0) (cell_of_heap hn 0)
  have q1 := ExtW.cell (v := .slice p1 S.stock.length c1) (cell_of_heap hn 1)
  have q2 := ExtW.cell (v := .slice p2 S.earn.length c2) (cell_of_heap hn 2)
  have q3 := ExtW.cell (v := .slice p3 S.keeps.length c3) (cell_of_heap hn 3)
  have q4 := ExtW.cell (v := .int .i64 S.changes) (cell_of_heap hn 4)
  have y0 := ExtW.cell (v := .int .i64 goal) (cell_of_heap hn2 0)
  have y1 := ExtW.cell (v := .int .i64 title) (cell_of_heap hn2 1)
  have HW := Lib.hid (fun x : ExtW W => ExtW.call (works07 x.w))
  have HR0 := fun x : ExtW W => ExtW.call (ready07 _ S x.w (SwapV.mono _ _ _ _ (hE.trans x.h) HV.out) hM)
  have HSV := Lib.hid (fun x : ExtW W => SwapV.mono _ _ _ _ (hE.trans x.h) HV.out)
  obtain ⟨x0, hx0⟩ := ExtW.of (Ext.refl W)
  have HEW := Lib.hid hE
  clear hW hn hn2 hE
  conv => arg 5; rw [hx0]
  clear hx0
  by_cases hR : Ready S
  case neg =>
    rw [bP_f hR] at HR0
    have HR := Lib.hid HR0
    clear hR HR0
    go_wp2_with fail
    refine (HR.out _).mono ?_
    rintro e _ ⟨rfl, x1, rfl⟩
    go_wp2_with fail
    refine (HW.out _).mono ?_
    rintro e _ ⟨rfl, x2, rfl⟩
    go_wp2
    go_ret
    exact RetE.fin (HEW.out.trans x2.h) rfl
  rw [bP_t hR] at HR0
  have HR := Lib.hid HR0
  obtain ⟨hS, hn2, -⟩ := hR
  have HS := Lib.hid hS
  have hs6 := hS.stock
  have he6 : S.earn.length ≤ 6 := by rw [hS.earn]; exact hs6
  have hk4 := hS.keeps
  have HQ := Lib.hid (fun (z : World) (hz : Ext W z) => (⟨q0 ⟨z, hz⟩, q1 ⟨z, hz⟩, q2 ⟨z, hz⟩, q3 ⟨z, hz⟩, q4 ⟨z, hz⟩, y0 ⟨z, hz⟩, y1 ⟨z, hz⟩⟩ :
    z.cell? ⟨w.heap.size, 0, none⟩ = some (.slice p0 S.boxes.length c0) ∧ z.cell? ⟨w.heap.size, 1, none⟩ = some (.slice p1 S.stock.length c1) ∧ z.cell? ⟨w.heap.size, 2, none⟩ = some (.slice p2 S.earn.length c2) ∧ z.cell? ⟨w.heap.size, 3, none⟩ = some (.slice p3 S.keeps.length c3) ∧ z.cell? ⟨w.heap.size, 4, none⟩ = some (.int .i64 S.changes) ∧ z.cell? ⟨w.heap.size + 1, 0, none⟩ = some (.int .i64 goal) ∧ z.cell? ⟨w.heap.size + 1, 1, none⟩ = some (.int .i64 title)))
  have HCN := Lib.hid (fun (x : ExtW W) => Clone07 _ S x.w (SwapV.mono _ _ _ _ (HEW.out.trans x.h) HV.out) (by omega) (fun i h => by have := (hS.box i h).1; omega) (by omega) (by omega) (fun i h => by rw [hS.row i h]; omega) (by omega))
  obtain ⟨p0', c0', p1', c1', p2', c2', p3', c3', he, k0', -, k2', -⟩ := HV.out
  injection he with he
  injection he with he
  simp only [List.cons.injEq, and_true] at he
  obtain ⟨e0, -, e2, -⟩ := he
  cases e0
  cases e2
  have HL0 := Lib.hid (k0'.ext HEW.out)
  have HL2 := Lib.hid (k2'.ext HEW.out)
  have hww : w.heap.size + 1 < W.heap.size := by have := lt_of_cell (y0 x0); have := x0.h.size; have := lt_of_cell ((HQ.out W (Ext.refl W)).2.2.2.2.2.1); omega
  clear HR0 hS k0' k2'
  go_wp2_with fail
  refine (HR.out _).mono ?_
  rintro e _ ⟨rfl, x1, rfl⟩
  go_wp2_with fail
  refine (HCN.out x1).mono ?_
  rintro e w4 ⟨v0, v1, v2, v3, g0, k0, g2, k2, B, rfl, hE4, hBB, hco⟩
  obtain ⟨r0, d0, r1, d1, r2, d2, r3, d3, he, -⟩ := hco.swap
  injection he with he
  injection he with he
  simp only [List.cons.injEq, and_true] at he
  obtain ⟨rfl, rfl, rfl, rfl⟩ := he
  obtain ⟨x4, rfl⟩ := ExtW.of (x1.h.trans hE4)
  have HCO := Lib.hid hco
  have hB4 : W.heap.size ≤ B := by have := x1.h.size; omega
  have hsz4 := x4.h.size
  clear hco hE4 HCN hBB
  go_upto_region 4 with (fail)
  have hn6 := heap_new x4.w (.cells #[.slice r0 S.boxes.length d0, .slice r1 S.stock.length d1, .slice r2 S.earn.length d2, .slice r3 S.keeps.length d3, .int .i64 S.changes] 26)
  obtain ⟨W6, hW6⟩ : ∃ W6, W6 = x4.w.alloc (.cells #[.slice r0 S.boxes.length d0, .slice r1 S.stock.length d1, .slice r2 S.earn.length d2, .slice r3 S.keeps.length d3, .int .i64 S.changes] 26) := ⟨_, rfl⟩
  have hE6 : Ext x4.w W6 := by rw [hW6]; exact Ext.alloc (Ext.refl x4.w) _
  rw [← hW6] at hn6 ⊢
  have HCO6 := Lib.hid (HCO.out.ext hE6)
  obtain ⟨B6, hB6⟩ : ∃ B6, B6 = x4.w.heap.size := ⟨_, rfl⟩
  rw [← hB6] at hn6 ⊢
  have hWlt : W.heap.size ≤ B6 := by omega
  have HB6 := Lib.hid hB6
  have HN6 := Lib.hid hn6
  have HE6 := Lib.hid (x4.h.trans hE6)
  have t0 := (HQ.out W6 HE6.out).1
  clear hW6 hB6 hn6 hE6 q0 q1 q2 q3 q4 y0 y1 hM
  obtain ⟨la, hla⟩ : ∃ la, la = (S.boxes.length : Int) - 1 := ⟨_, rfl⟩
  have hwl : IntKind.i64.wrap ((S.boxes.length : Int) - 1) = la := by rw [hla]; exact IntWalk.i64_in _ (by omega)
  have HWL := Lib.hid hwl
  have HLA := Lib.hid hla
  clear hla
  have hlow : ∀ (x : Nat), (inR (.slice r0 S.boxes.length d0) S.boxes g0 x ∨ inR (.slice r2 S.earn.length d2) S.earn g2 x ∨ (Value.slice r3 S.keeps.length d3).ownBlock = some x) → W.heap.size ≤ x ∧ x < B6 := by
    intro x hx
    have h2 := HB6.out
    rcases hx with h | h | h
    · have := HCO.out.b.bd h; omega
    · have := HCO.out.e.bd h; omega
    · have := HCO.out.k.lt x h; omega
  have HLOW := Lib.hid hlow
  clear hwl hlow
  have hwl := HWL.out
  go_wp2
  clear hwl
  go_loopw [7] (fun u wr => ∃ i : Nat, i ≤ S.boxes.length ∧ u = .int .i64 i ∧ Ext W wr ∧ B6 < wr.heap.size ∧ wr.heap[B6]? = some (.cells #[.slice r0 S.boxes.length d0, .slice r1 S.stock.length d1, .slice r2 S.earn.length d2, .slice r3 S.keeps.length d3, .int .i64 S.changes] 26 (0, 0)) ∧
    ∃ g k : Nat → Nat, CloneOwn wr B { S with boxes := bxTo S i, earn := enTo S i } (.slice r0 S.boxes.length d0) (.slice r1 S.stock.length d1) (.slice r2 S.earn.length d2) (.slice r3 S.keeps.length d3) g k g2 k2) (fun u _ => S.boxes.length - (intOf u).toNat)
  case atStart => exact ⟨0, by omega, rfl, HE6.out, (Array.getElem?_eq_some_iff.1 HN6.out).1, HN6.out, g0, k0, HCO6.out⟩
  case round =>
    clear HE6 HN6 HCO6 t0
    obtain ⟨i, hi, rfl, hE, hB6w, hn, g, kk, hc⟩ := hrel
    have HE := Lib.hid hE
    have HN := Lib.hid hn
    have HC := Lib.hid hc
    clear hE hn hc
    by_cases hlt : i < S.boxes.length
    · have hle : decide ((i : Int) ≤ la) = true := by have := HLA.out; simp; omega
      obtain ⟨m, hm⟩ : ∃ m, m = S.boxes.length - 1 - i := ⟨_, rfl⟩
      have hmn : m < S.boxes.length := by omega
      have hwm : IntKind.i64.wrap (la - (i : Int)) = (m : Int) := by
        have := HLA.out
        rw [show la - (i : Int) = (m : Int) from by omega]
        exact IntWalk.i64_in _ (by omega)
      have hblen : (bxTo S i).length = S.boxes.length := bxTo_len S i
      obtain ⟨bo, cc, he, hcell0⟩ := ownsRow_at HC.out.b.out m (by show m < (bxTo S i).length; omega)
      have hbo := HLOW.out bo (Or.inl (Or.inl (by rw [he]; rfl)))
      injection he with he1 he2 he3
      subst he1
      clear he2 he3
      obtain ⟨uv, hcell1⟩ : ∃ uv, wr.cell? ⟨bo, m, none⟩ = some uv := by
        rw [hcell0, List.getElem?_map, List.getElem?_range (by show m < (bxTo S i).length; omega)]
        exact ⟨_, rfl⟩
      obtain ⟨b, o, q', c', he, hck, hq'⟩ := HL0.out.at i hlt
      subst he
      have hgl := getD_of_lt S.boxes [] i hlt
      have hrl := (HS.out.box i hlt).1
      obtain ⟨l, hl⟩ : ∃ l, l = S.boxes[i] := ⟨_, rfl⟩
      rw [← hl] at hck hq' hgl hrl
      have hbW : b < W.heap.size := lt_of_cell hck
      have HCK := Lib.hid hck
      have HQ' := Lib.hid hq'
      have HGL := Lib.hid hgl
      have HX := Lib.hid (Ext.refl wr)
      have HSK := Lib.hid (fun (z : World) (hz : Ext wr z) => (⟨hz.cell ((cell_of_heap HN.out 0).trans rfl), (HQ.out z (HE.out.trans hz)).1, (HE.out.trans hz).cell HCK.out⟩ :
        z.cell? ⟨B6, 0, none⟩ = some (.slice (some ⟨bo, 0, none⟩) S.boxes.length d0) ∧ z.cell? ⟨w.heap.size, 0, none⟩ = some (.slice (some ⟨b, o, none⟩) S.boxes.length c0) ∧ z.cell? ⟨b, o + i, none⟩ = some (.slice q' l.length c')))
      have HSK2 := Lib.hid (fun (z : World) (u : Value) (hz : Ext wr z) => (⟨(cell_set_ne (by omega)).trans (HSK.out z hz).1, (cell_set_ne (by omega)).trans (HSK.out z hz).2.1, (cell_set_ne (by omega)).trans (HSK.out z hz).2.2⟩ :
        (z.setCell ⟨bo, m, none⟩ u).cell? ⟨B6, 0, none⟩ = some (.slice (some ⟨bo, 0, none⟩) S.boxes.length d0) ∧ (z.setCell ⟨bo, m, none⟩ u).cell? ⟨w.heap.size, 0, none⟩ = some (.slice (some ⟨b, o, none⟩) S.boxes.length c0) ∧ (z.setCell ⟨bo, m, none⟩ u).cell? ⟨b, o + i, none⟩ = some (.slice q' l.length c')))
      have HFZ := Lib.hid (fun (z : World) (hz : Ext wr z) => (⟨hz.cell hcell1, rows_cell (HC.out.b.ext hz) m⟩ : z.cell? ⟨bo, m, none⟩ = some uv ∧ z.frozen? ⟨bo, m, none⟩ = false))
      have HBO := Lib.hid hbo
      have HM := Lib.hid hm
      have t0 := (HQ.out wr HE.out).1
      clear hcell0 hcell1 hck hq' hgl hl hbo hm hblen
      go_upto_region 8 with (fail)
      go_region_held3 (fun z => z.cell? ⟨B6, 0, none⟩ = some (.slice (some ⟨bo, 0, none⟩) S.boxes.length d0) ∧ z.cell? ⟨w.heap.size, 0, none⟩ = some (.slice (some ⟨b, o, none⟩) S.boxes.length c0) ∧ z.cell? ⟨b, o + i, none⟩ = some (.slice q' l.length c'))
        (first | (with_reducible refine HSK2.out _ _ ?_; repeat (first | with_reducible exact HX.out | with_reducible exact StpK.out (by assumption) | with_reducible refine Ext.alloc ?_ _ | with_reducible refine Ext.drew ?_ | with_reducible refine Ext.trans ?_ (StpK.out (by assumption)))) | (refine HSK.out _ ?_; repeat (first | with_reducible exact HX.out | with_reducible exact StpK.out (by assumption) | with_reducible refine Ext.alloc ?_ _ | with_reducible refine Ext.drew ?_ | with_reducible refine Ext.trans ?_ (StpK.out (by assumption)))))
        ((refine guard_op (.call { callee := .builtin .append, args := #[.tmp 42, .tmp 47], argTypes := #[23, 23] }) ?_ ?_; exact rfl; refine step_row_of rfl (.tmp 42) (.tmp 47) rfl _ rfl q' l c' rfl (by first | with_reducible exact own_drewK (own_madeK (by first | with_reducible rfl | (simp only [size_alloc]; done) | (simp only [size_alloc]; omega) | omega)) | with_reducible exact own_madeK (by first | with_reducible rfl | (simp only [size_alloc]; done) | (simp only [size_alloc]; omega) | omega)) ((HQ'.out.ext HE.out).ext (by repeat (first | with_reducible exact HX.out | with_reducible exact StpK.out (by assumption) | with_reducible refine Ext.alloc ?_ _ | with_reducible refine Ext.drew ?_ | with_reducible refine Ext.trans ?_ (StpK.out (by assumption))))) (by omega) ?_; intro gn cn w2 ho2 hE2 hat2 hlt2; have hS2 := StpK.mk hE2; have hgn : wr.heap.size ≤ gn := (by rcases hat2 with e | e <;> rw [e] <;> (try simp only [size_drewK]) <;> (try simp only [size_alloc]) <;> omega); have HO2 := Lib.hid ho2; have hW2 : Ext wr w2 := Ext.trans (by repeat (first | with_reducible exact HX.out | with_reducible refine Ext.alloc ?_ _ | with_reducible refine Ext.drew ?_)) hE2; have HW2 := Lib.hid hW2; have z1 := (HFZ.out w2 HW2.out).1; have z2 := (HFZ.out w2 HW2.out).2; clear hE2 ho2 hat2 hlt2 hW2))
      all_goals
        have hgs : gn < w2.heap.size := (HO2.out.lt gn rfl).2
        have hBbo := HC.out.b.out.lt bo rfl
        have hblen : (bxTo S i).length = S.boxes.length := bxTo_len S i
        have hbox := HBO.out
        obtain ⟨X1, hX1⟩ : ∃ X1, X1 = w2.setCell ⟨bo, m, none⟩ (.slice (some ⟨gn, 0, none⟩) l.length cn) := ⟨_, rfl⟩
        have hc1 : CloneOwn X1 B { S with boxes := bxTo S (i + 1), earn := enTo S i } (.slice (some ⟨bo, 0, none⟩) S.boxes.length d0) (.slice r1 S.stock.length d1) (.slice r2 S.earn.length d2) (.slice r3 S.keeps.length d3) (fun j => if j = m then gn else g j) (fun j => if j = m then cn else kk j) g2 k2 := by
          have := CloneOwn.setBox (i := m) (gn := gn) (cn := cn) (l := l) hblen.symm (HC.out.ext HW2.out) (by show m < (bxTo S i).length; omega) (ownsRow_base HO2.out (by omega))
            (fun h => by have := (HC.out.b.bd h).2; omega) (fun h => by have := (HC.out.s.lt gn h).2; omega) (fun h => by have := (HC.out.e.bd h).2; omega) (fun h => by have := (HC.out.k.lt gn h).2; omega)
          rw [← hX1] at this
          have e : (bxTo S i).set m l = bxTo S (i + 1) := by rw [HM.out, ← HGL.out]; rfl
          show CloneOwn X1 B ⟨bxTo S (i + 1), S.stock, enTo S i, S.keeps, S.changes⟩ _ _ _ _ _ _ _ _
          rw [← e]
          exact this
        have hn1 : X1.heap[B6]? = some (.cells #[.slice (some ⟨bo, 0, none⟩) S.boxes.length d0, .slice r1 S.stock.length d1, .slice r2 S.earn.length d2, .slice r3 S.keeps.length d3, .int .i64 S.changes] 26 (0, 0)) := by
          rw [hX1, heap_set_ne (by omega)]; exact (Below.block HW2.out _ hB6w).trans HN.out
        have hE1 : Ext W X1 := by rw [hX1]; exact (HE.out.trans HW2.out).trans' ((setCell_but w2 bo m _).below hbox.1)
        rw [← hX1]
        obtain ⟨gA, hgA⟩ : ∃ gA : Nat → Nat, gA = fun j => if j = m then gn else g j := ⟨_, rfl⟩
        obtain ⟨kA, hkA⟩ : ∃ kA : Nat → Nat, kA = fun j => if j = m then cn else kk j := ⟨_, rfl⟩
        rw [← hgA, ← hkA] at hc1
        have HC1 := Lib.hid hc1
        have HN1 := Lib.hid hn1
        have HE1 := Lib.hid hE1
        have t2 := (HQ.out X1 hE1).2.2.1
        clear hX1 hc1 hn1 hE1 hgA hkA HC HN HE HSK HSK2 HFZ HO2 HW2 HX HCK HQ' hgs hBbo hblen hS2 z1 z2 t0 hgn
        go_wp2
        go_loopw [8] (fun u wr => ∃ k : Nat, k ≤ S.earn.length ∧ u = .int .i64 k ∧ Ext W wr ∧ wr.heap[B6]? = some (.cells #[.slice (some ⟨bo, 0, none⟩) S.boxes.length d0, .slice r1 S.stock.length d1, .slice r2 S.earn.length d2, .slice r3 S.keeps.length d3, .int .i64 S.changes] 26 (0, 0)) ∧
          CloneOwn wr B { S with boxes := bxTo S (i + 1), earn := enRow S (enTo S i) i k } (.slice (some ⟨bo, 0, none⟩) S.boxes.length d0) (.slice r1 S.stock.length d1) (.slice r2 S.earn.length d2) (.slice r3 S.keeps.length d3) gA kA g2 k2) (fun u _ => S.earn.length - (intOf u).toNat)
        case atStart => exact ⟨0, by omega, rfl, HE1.out, HN1.out, HC1.out⟩
        case round =>
          clear HC1 HN1 HE1 t2
          obtain ⟨k, hk, rfl, hE, hn, hc⟩ := hrel
          have HE := Lib.hid hE
          have HN := Lib.hid hn
          have HC := Lib.hid hc
          clear hE hn hc
          by_cases hlt2 : k < S.earn.length
          · have hEl : (enRow S (enTo S i) i k).length = S.earn.length := by rw [enRow_len, enTo_len]
            obtain ⟨be, cc, he, hcell⟩ := ownsRow_at HC.out.e.out k (by show k < (enRow S (enTo S i) i k).length; omega)
            have hbe := HLOW.out be (Or.inr (Or.inl (Or.inl (by rw [he]; rfl))))
            have hg2 := HLOW.out (g2 k) (Or.inr (Or.inl (Or.inr ⟨k, hlt2, rfl⟩)))
            have hap := HC.out.e.apart k (by show k < (enRow S (enTo S i) i k).length; omega)
            rw [he] at hap
            have hbg : be ≠ g2 k := fun e => hap (by rw [e]; rfl)
            injection he with he1 he2 he3
            subst he1
            clear he2 he3 hap
            have hrl2 := HS.out.row k hlt2
            have hrow : ((enRow S (enTo S i) i k).getD k []).length = S.boxes.length := by
              rw [enRow_get _ _ _ _ (by rw [enTo_len]; omega), if_neg (by omega), enTo_row S k hlt2, getD_of_lt _ _ _ hlt2, hrl2]
            have hcell1 : wr.cell? ⟨be, k, none⟩ = some (.slice (some ⟨g2 k, 0, none⟩) S.boxes.length (k2 k)) := by
              rw [hcell, List.getElem?_map, List.getElem?_range (by show k < (enRow S (enTo S i) i k).length; omega)]
              show some (Value.slice (some ⟨g2 k, 0, none⟩) ((enRow S (enTo S i) i k).getD k []).length (k2 k)) = _
              rw [hrow]
            have hrw := HC.out.e.row k (by show k < (enRow S (enTo S i) i k).length; omega)
            obtain ⟨sc, sf⟩ := ownsRow_cell (i := m) hrw (by show m < ((enRow S (enTo S i) i k).getD k []).length; omega)
            obtain ⟨oldv, holdv⟩ : ∃ ov, wr.cell? ⟨g2 k, m, none⟩ = some (.int .i64 ov) := ⟨_, sc⟩
            obtain ⟨b2, o2, q2', c2', he, hck, hq2⟩ := HL2.out.at k hlt2
            subst he
            obtain ⟨b3, o3, he, hck3⟩ := hq2.at i (by omega)
            subst he
            obtain ⟨ev, hev⟩ : ∃ ev, ev = S.earn[k][i] := ⟨_, rfl⟩
            rw [← hev] at hck3
            rw [hrl2] at hck
            have hb2 : b2 < W.heap.size := lt_of_cell hck
            have hb3 : b3 < W.heap.size := lt_of_cell hck3
            have HS12 := Lib.hid (fun (z : World) (hz : Ext wr z) => (⟨hz.cell ((cell_of_heap HN.out 2).trans rfl), hz.cell hcell1, (HQ.out z (HE.out.trans hz)).2.2.1, (HE.out.trans hz).cell hck, (HE.out.trans hz).cell hck3⟩ :
              z.cell? ⟨B6, 2, none⟩ = some (.slice (some ⟨be, 0, none⟩) S.earn.length d2) ∧ z.cell? ⟨be, k, none⟩ = some (.slice (some ⟨g2 k, 0, none⟩) S.boxes.length (k2 k)) ∧ z.cell? ⟨w.heap.size, 2, none⟩ = some (.slice (some ⟨b2, o2, none⟩) S.earn.length c2) ∧ z.cell? ⟨b2, o2 + k, none⟩ = some (.slice (some ⟨b3, o3, none⟩) S.boxes.length c2') ∧ z.cell? ⟨b3, o3 + i, none⟩ = some (.int .i64 ev)))
            have HSET := Lib.hid (fun (z : World) (u : Value) (hz : Ext wr z) => (⟨(cell_set_ne (by omega)).trans (HS12.out z hz).1, (cell_set_ne hbg).trans (HS12.out z hz).2.1, (cell_set_ne (by omega)).trans (HS12.out z hz).2.2.1, (cell_set_ne (by omega)).trans (HS12.out z hz).2.2.2.1, (cell_set_ne (by omega)).trans (HS12.out z hz).2.2.2.2⟩ :
              (z.setCell ⟨g2 k, m, none⟩ u).cell? ⟨B6, 2, none⟩ = some (.slice (some ⟨be, 0, none⟩) S.earn.length d2) ∧ (z.setCell ⟨g2 k, m, none⟩ u).cell? ⟨be, k, none⟩ = some (.slice (some ⟨g2 k, 0, none⟩) S.boxes.length (k2 k)) ∧ (z.setCell ⟨g2 k, m, none⟩ u).cell? ⟨w.heap.size, 2, none⟩ = some (.slice (some ⟨b2, o2, none⟩) S.earn.length c2) ∧ (z.setCell ⟨g2 k, m, none⟩ u).cell? ⟨b2, o2 + k, none⟩ = some (.slice (some ⟨b3, o3, none⟩) S.boxes.length c2') ∧ (z.setCell ⟨g2 k, m, none⟩ u).cell? ⟨b3, o3 + i, none⟩ = some (.int .i64 ev)))
            have HSETD := Lib.hid (fun (z : World) (u : Value) (hz : Ext wr z) => (HSET.out z u hz : (z.setCell ⟨g2 k, m, none⟩ u).drew.cell? ⟨B6, 2, none⟩ = some (.slice (some ⟨be, 0, none⟩) S.earn.length d2) ∧ (z.setCell ⟨g2 k, m, none⟩ u).drew.cell? ⟨be, k, none⟩ = some (.slice (some ⟨g2 k, 0, none⟩) S.boxes.length (k2 k)) ∧ (z.setCell ⟨g2 k, m, none⟩ u).drew.cell? ⟨w.heap.size, 2, none⟩ = some (.slice (some ⟨b2, o2, none⟩) S.earn.length c2) ∧ (z.setCell ⟨g2 k, m, none⟩ u).drew.cell? ⟨b2, o2 + k, none⟩ = some (.slice (some ⟨b3, o3, none⟩) S.boxes.length c2') ∧ (z.setCell ⟨g2 k, m, none⟩ u).drew.cell? ⟨b3, o3 + i, none⟩ = some (.int .i64 ev)))
            have HX := Lib.hid (Ext.refl wr)
            have HG2 := Lib.hid hg2
            have HROW := Lib.hid hrow
            have hev2 : ev = (S.earn.getD k []).getD i 0 := by rw [hev, getD_of_lt _ _ _ hlt2, getD_of_lt _ _ _ (by omega : i < S.earn[k].length)]
            have HEV := Lib.hid hev2
            have hsf : wr.frozen? ⟨g2 k, m, none⟩ = false := sf
            have t2 := (HQ.out wr HE.out).2.2.1
            clear hcell hcell1 hck hck3 hq2 hrw sc hEl hrow hbe hg2 hbg hb2 hb3 hev hev2 hrl2 sf
            go_upto_region 12 with (fail)
            go_region_held3 (fun z => z.cell? ⟨B6, 2, none⟩ = some (.slice (some ⟨be, 0, none⟩) S.earn.length d2) ∧ z.cell? ⟨be, k, none⟩ = some (.slice (some ⟨g2 k, 0, none⟩) S.boxes.length (k2 k)) ∧ z.cell? ⟨w.heap.size, 2, none⟩ = some (.slice (some ⟨b2, o2, none⟩) S.earn.length c2) ∧ z.cell? ⟨b2, o2 + k, none⟩ = some (.slice (some ⟨b3, o3, none⟩) S.boxes.length c2') ∧ z.cell? ⟨b3, o3 + i, none⟩ = some (.int .i64 ev))
              (first | (exact HSETD.out wr (.int .i64 ev) HX.out) | (with_reducible refine HSET.out _ _ ?_; repeat (first | with_reducible exact HX.out | with_reducible refine Ext.drew ?_)) | (refine HS12.out _ ?_; repeat (first | with_reducible exact HX.out | with_reducible refine Ext.drew ?_)))
              ((fail))
            all_goals
              obtain ⟨X2, hX2⟩ : ∃ X2, X2 = (wr.setCell ⟨g2 k, m, none⟩ (.int .i64 ev)).drew := ⟨_, rfl⟩
              have hg2 := HG2.out
              have hEl : (enRow S (enTo S i) i k).length = S.earn.length := by rw [enRow_len, enTo_len]
              have hrow := HROW.out
              have hkl : k < (enRow S (enTo S i) i k).length := by omega
              have hgd := getD_of_lt (enRow S (enTo S i) i k) [] k hkl
              have hc2 : CloneOwn X2 B { S with boxes := bxTo S (i + 1), earn := enRow S (enTo S i) i (k + 1) } (.slice (some ⟨bo, 0, none⟩) S.boxes.length d0) (.slice r1 S.stock.length d1) (.slice (some ⟨be, 0, none⟩) S.earn.length d2) (.slice r3 S.keeps.length d3) gA kA g2 k2 := by
                have := (CloneOwn.setEarn (i := k) (j := m) (m := ev) HC.out hkl (by rw [hgd] at hrow; show m < (enRow S (enTo S i) i k)[k].length; omega)).ext (Ext.drew (Ext.refl _))
                rw [← hX2] at this
                have e : (enRow S (enTo S i) i k).set k ((enRow S (enTo S i) i k)[k].set m ev) = enRow S (enTo S i) i (k + 1) := by rw [← hgd, HM.out, HEV.out]; rfl
                show CloneOwn X2 B ⟨bxTo S (i + 1), S.stock, enRow S (enTo S i) i (k + 1), S.keeps, S.changes⟩ _ _ _ _ _ _ _ _
                rw [← e]
                exact this
              have hn2 : X2.heap[B6]? = some (.cells #[.slice (some ⟨bo, 0, none⟩) S.boxes.length d0, .slice r1 S.stock.length d1, .slice (some ⟨be, 0, none⟩) S.earn.length d2, .slice r3 S.keeps.length d3, .int .i64 S.changes] 26 (0, 0)) := by
                rw [hX2]
                show (wr.setCell ⟨g2 k, m, none⟩ (.int .i64 ev)).heap[B6]? = _
                rw [heap_set_ne (by omega)]; exact HN.out
              have hE2 : Ext W X2 := by rw [hX2]; exact (HE.out.trans' ((setCell_but wr (g2 k) m _).below hg2.1)).drew
              rw [← hX2]
              have HC2 := Lib.hid hc2
              have HN2 := Lib.hid hn2
              have HE2 := Lib.hid hE2
              clear hX2 hc2 hn2 hE2 hEl hrow hkl hgd hg2 HC HN HE HS12 HSET HSETD hsf t2 HROW
              go_wp2
              go_roundw
              case rel => exact ⟨k + 1, by omega, by go_num, HE2.out, HN2.out, HC2.out⟩
              case measure => simp [intOf]; omega
          · obtain rfl : k = S.earn.length := by omega
            have t2 := (HQ.out wr HE.out).2.2.1
            have hBs := (Array.getElem?_eq_some_iff.1 HN.out).1
            go_wp2
            go_roundw
            case rel => exact ⟨i + 1, by omega, by go_num, HE.out, hBs, HN.out, gA, kA, HC.out⟩
            case measure => simp [intOf]; omega
    · obtain rfl : i = S.boxes.length := by omega
      have hle : decide ((S.boxes.length : Int) ≤ la) = false := by have := HLA.out; simp; omega
      go_wp2
      go_loopw [9] (fun u wr => ∃ j : Nat, j ≤ S.keeps.length ∧ u = .int .i64 j ∧ Ext W wr ∧ wr.heap[B6]? = some (.cells #[.slice r0 S.boxes.length d0, .slice r1 S.stock.length d1, .slice r2 S.earn.length d2, .slice r3 S.keeps.length d3, .int .i64 S.changes] 26 (0, 0)) ∧
        CloneOwn wr B { S with boxes := bxTo S S.boxes.length, earn := enTo S S.boxes.length, keeps := kpTo S j } (.slice r0 S.boxes.length d0) (.slice r1 S.stock.length d1) (.slice r2 S.earn.length d2) (.slice r3 S.keeps.length d3) g kk g2 k2) (fun u _ => S.keeps.length - (intOf u).toNat)
      case atStart => exact ⟨0, by omega, rfl, HE.out, HN.out, HC.out⟩
      case round =>
        clear HC HN HE hB6w
        obtain ⟨j, hj, rfl, hE, hn, hc⟩ := hrel
        have HE := Lib.hid hE
        have HN := Lib.hid hn
        have HC := Lib.hid hc
        have t3 : wr.cell? ⟨B6, 3, none⟩ = some (.slice r3 S.keeps.length d3) := (cell_of_heap hn 3).trans rfl
        clear hE hn hc
        by_cases hlt : j < S.keeps.length
        · obtain ⟨b3, he⟩ : ∃ b3, r3 = some ⟨b3, 0, none⟩ := by
            rcases HC.out.k.2 with ⟨hv, h0⟩ | ⟨b, cap, cur, hv, -⟩
            · have : (kpTo S j).length = 0 := h0
              rw [kpTo_len] at this
              omega
            · injection hv with hv _ _
              exact ⟨b, hv⟩
          subst he
          have hb3 := HLOW.out b3 (Or.inr (Or.inr rfl))
          have hck := HC.out.k
          change wr.ownsRow B 45 2 _ (kpTo S j).length (pairVs (kpTo S j)) at hck
          rw [kpTo_len] at hck
          obtain ⟨sc, sf⟩ := keeps_cell (i := j) hck (by rw [kpTo_len]; omega)
          have hkj : (kpTo S j)[j]? = S.keeps[j]? := by rw [kpTo_get, if_neg (by omega)]
          have hjl : j < (kpTo S j).length := by rw [kpTo_len]; omega
          rw [List.getElem?_eq_getElem hlt, List.getElem?_eq_getElem hjl] at hkj
          have hkj' := Option.some.inj hkj
          have hkb := HS.out.keep j hlt
          obtain ⟨kx, hkx⟩ : ∃ kx, kx = S.keeps[j].1 := ⟨_, rfl⟩
          have sc' : wr.cell? ⟨b3, j * 2, none⟩ = some (.int .i64 kx) := by rw [sc, hkx]; show some (Value.int .i64 (kpTo S j)[j].1) = _; rw [hkj']
          have sf' : wr.frozen? ⟨b3, j * 2, none⟩ = false := sf (j * 2)
          rw [← hkx] at hkb
          have hwk : IntKind.i64.wrap (la - kx) = la - kx := IntWalk.i64_in _ (by have := HLA.out; omega)
          have HKX := Lib.hid hkx
          have HKJ := Lib.hid hkj'
          have HB3 := Lib.hid hb3
          clear sc sf hck hkj hkj' hkb hkx hb3
          go_upto_region 16 with (fail)
          go_still_tail 13, (by kernel_rfl)
          change wpList _ _ _ _ _ wr.drew
          obtain ⟨w2, hw2⟩ : ∃ w2, w2 = wr.drew := ⟨_, rfl⟩
          rw [← hw2]
          have hEd : Ext wr w2 := by rw [hw2]; exact (Ext.refl wr).drew
          have u1 : w2.cell? ⟨b3, j * 2, none⟩ = some (.int .i64 kx) := hEd.cell sc'
          have u2 : w2.frozen? ⟨b3, j * 2, none⟩ = false := by rw [hw2]; exact sf'
          have HED := Lib.hid hEd
          clear hw2 hEd sc' sf' t3
          go_upto_region 15 with (fail)
          obtain ⟨X3, hX3⟩ : ∃ X3, X3 = w2.setCell ⟨b3, j * 2, none⟩ (.int .i64 (la - kx)) := ⟨_, rfl⟩
          have hb3 := HB3.out
          have hc3 : CloneOwn X3 B { S with boxes := bxTo S S.boxes.length, earn := enTo S S.boxes.length, keeps := kpTo S (j + 1) } (.slice r0 S.boxes.length d0) (.slice r1 S.stock.length d1) (.slice r2 S.earn.length d2) (.slice (some ⟨b3, 0, none⟩) S.keeps.length d3) g kk g2 k2 := by
            have := CloneOwn.setKeep (i := j) (m := la - kx) (by show S.keeps.length = (kpTo S j).length; rw [kpTo_len]) (HC.out.ext HED.out) hjl
            rw [← hX3] at this
            have e : (kpTo S j).set j (la - kx, (kpTo S j)[j].2) = kpTo S (j + 1) := by
              rw [HKJ.out, HKX.out, HLA.out]
              show _ = (kpTo S j).set j _
              rw [getD_of_lt S.keeps _ _ hlt]
            show CloneOwn X3 B ⟨bxTo S S.boxes.length, S.stock, enTo S S.boxes.length, kpTo S (j + 1), S.changes⟩ _ _ _ _ _ _ _ _
            rw [← e]
            exact this
          have hn3 : X3.heap[B6]? = some (.cells #[.slice r0 S.boxes.length d0, .slice r1 S.stock.length d1, .slice r2 S.earn.length d2, .slice (some ⟨b3, 0, none⟩) S.keeps.length d3, .int .i64 S.changes] 26 (0, 0)) := by
            rw [hX3, heap_set_ne (by omega)]; exact (Below.block HED.out _ (Array.getElem?_eq_some_iff.1 HN.out).1).trans HN.out
          have hE3 : Ext W X3 := by rw [hX3]; exact (HE.out.trans HED.out).trans' ((setCell_but w2 b3 _ _).below hb3.1)
          rw [← hX3]
          have HC3 := Lib.hid hc3
          have HN3 := Lib.hid hn3
          have HE3 := Lib.hid hE3
          clear hX3 hc3 hn3 hE3 hb3 u1 u2 hwk HC HN HE
          go_wp2
          go_roundw
          case rel => exact ⟨j + 1, by omega, by go_num, HE3.out, HN3.out, HC3.out⟩
          case measure => simp [intOf]; omega
        · obtain rfl : j = S.keeps.length := by omega
          obtain ⟨O, hO⟩ : ∃ O, O = turnS S := ⟨_, rfl⟩
          have hrv : RevS S O := by rw [hO]; exact turn_rev HS.out hn2
          have hch : O.changes = S.changes := hrv.ch
          have hsvo : SwapV wr (.agg #[.slice r0 S.boxes.length d0, .slice r1 S.stock.length d1, .slice r2 S.earn.length d2, .slice r3 S.keeps.length d3, .int .i64 S.changes]) O := by
            rw [hO]; exact HC.out.swap
          have hVO := rev_valid HS.out hrv
          have hn6 := HN.out
          have s0 : ∀ x : ExtW wr, x.w.cell? ⟨w.heap.size, 0, none⟩ = some (.slice p0 S.boxes.length c0) := fun x => (HQ.out x.w (HE.out.trans x.h)).1
          have s1 : ∀ x : ExtW wr, x.w.cell? ⟨w.heap.size, 1, none⟩ = some (.slice p1 S.stock.length c1) := fun x => (HQ.out x.w (HE.out.trans x.h)).2.1
          have s2 : ∀ x : ExtW wr, x.w.cell? ⟨w.heap.size, 2, none⟩ = some (.slice p2 S.earn.length c2) := fun x => (HQ.out x.w (HE.out.trans x.h)).2.2.1
          have s3 : ∀ x : ExtW wr, x.w.cell? ⟨w.heap.size, 3, none⟩ = some (.slice p3 S.keeps.length c3) := fun x => (HQ.out x.w (HE.out.trans x.h)).2.2.2.1
          have s4 : ∀ x : ExtW wr, x.w.cell? ⟨w.heap.size, 4, none⟩ = some (.int .i64 S.changes) := fun x => (HQ.out x.w (HE.out.trans x.h)).2.2.2.2.1
          have u0 : ∀ x : ExtW wr, x.w.cell? ⟨w.heap.size + 1, 0, none⟩ = some (.int .i64 goal) := fun x => (HQ.out x.w (HE.out.trans x.h)).2.2.2.2.2.1
          have u1 : ∀ x : ExtW wr, x.w.cell? ⟨w.heap.size + 1, 1, none⟩ = some (.int .i64 title) := fun x => (HQ.out x.w (HE.out.trans x.h)).2.2.2.2.2.2
          have o0 := ExtW.cell (v := .slice r0 S.boxes.length d0) (cell_of_heap hn6 0)
          have o1 := ExtW.cell (v := .slice r1 S.stock.length d1) (cell_of_heap hn6 1)
          have o2 := ExtW.cell (v := .slice r2 S.earn.length d2) (cell_of_heap hn6 2)
          have o3 := ExtW.cell (v := .slice r3 S.keeps.length d3) (cell_of_heap hn6 3)
          have o4 := ExtW.cell (v := .int .i64 S.changes) (cell_of_heap hn6 4)
          have HSS := Lib.hid (fun x : ExtW wr => SwapV.mono _ _ _ _ ((HEW.out.trans HE.out).trans x.h) HV.out)
          have HSO := Lib.hid (fun x : ExtW wr => SwapV.mono _ _ _ _ x.h hsvo)
          have HWT := Lib.hid (fun x : ExtW wr => ExtW.call (works07 x.w))
          have HEX := Lib.hid (HEW.out.trans HE.out)
          obtain ⟨fa, fb, hfv⟩ := few_vals S goal
          obtain ⟨ca, cb, hcv⟩ := copy_valsK S title
          obtain ⟨na, nb, hnv⟩ := change_vals S
          obtain ⟨ra, rb, hrvv⟩ := fair_vals S
          have hMS := modest_of_valid HS.out
          have hMO := modest_of_valid hVO
          have hbv : ansV S (bestN (openV S)) = .tuple #[.int .i64 (bestN (openV S)), .int .i64 0] := ansV_t HS.out
          have HB1 := Lib.hid (fun x : ExtW wr => ExtW.call (hbv ▸ Best07 _ S x.w (HSS.out x) hMS))
          have HB2 := Lib.hid (fun x : ExtW wr => ExtW.call (((rev_ans HS.out hrv).trans hbv) ▸ Best07 _ O x.w (HSO.out x) hMO))
          have HR1 := Lib.hid (fun x : ExtW wr => ExtW.call (hrvv ▸ Fair07 _ S x.w (HSS.out x) hMS))
          have HR2 := Lib.hid (fun x : ExtW wr => ExtW.call (((rev_fairV HS.out hrv).trans hrvv) ▸ Fair07 _ O x.w (HSO.out x) hMO))
          have HF1 := Lib.hid (fun x : ExtW wr => ExtW.call (hfv ▸ Fewest07 _ S goal x.w (HSS.out x) hMS))
          have HF2 := Lib.hid (fun x : ExtW wr => ExtW.call (((rev_fewV HS.out hrv goal).trans hfv) ▸ Fewest07 _ O goal x.w (HSO.out x) hMO))
          have HC1 := Lib.hid (fun x : ExtW wr => ExtW.call (hcv ▸ Copy07 _ S title x.w (HSS.out x) hMS))
          have HC2 := Lib.hid (fun x : ExtW wr => ExtW.call (((rev_copyV HS.out hrv title).trans hcv) ▸ Copy07 _ O title x.w (HSO.out x) hMO))
          have HN1 := Lib.hid (fun x : ExtW wr => ExtW.call (hnv ▸ Change07 _ S x.w (HSS.out x) hMS))
          have HN2 := Lib.hid (fun x : ExtW wr => ExtW.call (((rev_changeV HS.out hrv).trans hnv) ▸ Change07 _ O x.w (HSO.out x) hMO))
          obtain ⟨z0, hz0⟩ := ExtW.of (Ext.refl wr)
          clear hO hrv hch hsvo hVO hn6 hfv hcv hnv hrvv hMS hMO hbv t3 HC HN HE HW HR HSV HQ HL0 HL2 HCO hle
          conv => arg 5; rw [hz0]
          clear hz0
          go_wp2_with fail
          refine (HB1.out _).mono ?_
          rintro e _ ⟨rfl, z1, rfl⟩
          go_wp2_with fail
          refine (HB2.out _).mono ?_
          rintro e _ ⟨rfl, z2, rfl⟩
          go_wp2_with fail
          refine (HR1.out _).mono ?_
          rintro e _ ⟨rfl, z3, rfl⟩
          go_wp2_with fail
          refine (HR2.out _).mono ?_
          rintro e _ ⟨rfl, z4, rfl⟩
          go_wp2_with fail
          refine (HF1.out _).mono ?_
          rintro e _ ⟨rfl, z5, rfl⟩
          go_wp2_with fail
          refine (HF2.out _).mono ?_
          rintro e _ ⟨rfl, z6, rfl⟩
          go_wp2_with fail
          refine (HC1.out _).mono ?_
          rintro e _ ⟨rfl, z7, rfl⟩
          go_wp2_with fail
          refine (HC2.out _).mono ?_
          rintro e _ ⟨rfl, z8, rfl⟩
          go_wp2_with fail
          refine (HN1.out _).mono ?_
          rintro e _ ⟨rfl, z9, rfl⟩
          go_wp2_with fail
          refine (HN2.out _).mono ?_
          rintro e _ ⟨rfl, z10, rfl⟩
          go_wp2_with fail
          refine (HWT.out _).mono ?_
          rintro e _ ⟨rfl, z11, rfl⟩
          go_wp2
          go_ret
          exact RetE.fin (HEX.out.trans z11.h) rfl
end Go.Proofs.Ytpgjkmjejpfkmaa
