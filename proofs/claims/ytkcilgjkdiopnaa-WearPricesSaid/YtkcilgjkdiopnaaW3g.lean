/- The walk of the function that yields each week, with the state behind it. -/
import Derived.Test.YtkcilgjkdiopnaaW3f
namespace Go.Proofs.Ytkcilgjkdiopnaa
open Go.RowKit
attribute [local go_sem] Oper.semAt_some

/-- the blocks of the state -/
def Dst (s : Nat) (u : Value) (k : Nat) : Prop := k = s ∨ u.ownBlock = some k
/-- what the iterator says ahead of each yield -/
def Sst (X : Wr) (l : List Wk) (B s : Nat) (u : Value) (xs : List Nat) (W : World) : Prop := xs = List.range xs.length ∧ StAt X.recs.length B s u (runTo X l xs.length) W
theorem StAt.fr {n B s : Nat} {u : Value} {x : St} {E : Nat → Prop} {w w' : World} (h : StAt n B s u x w) (hF : Fr E w w') (h1 : ¬E s) (h2 : ∀ g, u.ownBlock = some g → ¬E g) : StAt n B s u x w' :=
  ⟨(hF.block s (Array.getElem?_eq_some_iff.1 h.1).1 h1).trans h.1, ownsRow_fr h.2 hF h2⟩
theorem cell_set_ne {w : World} {b c o o' : Nat} {u : Value} (h : b ≠ c) : (w.setCell ⟨c, o', none⟩ u).cell? ⟨b, o, none⟩ = w.cell? ⟨b, o, none⟩ :=
  World.cell?_setCell_other _ _ _ _ (by intro e; simp only [Addr.mk.injEq] at e; first | exact h e.1 | exact h e.1.symm)

/-- what the blocks of the iterator hold, over a world a in which the arguments lay -/
structure ItAt (X : Wr) (l : List Wk) (p q pp : Option Addr) (c d pc b s : Nat) (a W : World) : Prop where
  box : W.heap[b]? = some (bxO X p c q d)
  ptr : W.heap[b + 1]? = some (.cells #[.pointer (some ⟨s, 0, none⟩)] 96)
  plan : W.heap[b + 2]? = some (.cells #[.slice pp l.length pc] 26)
  ext : Ext a W
theorem ItAt.fr {X : Wr} {l : List Wk} {p q pp : Option Addr} {c d pc b s : Nat} {a w W : World} {E : Nat → Prop} (h : ItAt X l p q pp c d pc b s a w) (hF : Fr E w W) (h0 : ¬E b) (h1 : ¬E (b + 1)) (h2 : ¬E (b + 2)) (ha : ∀ k, E k → a.heap.size ≤ k) : ItAt X l p q pp c d pc b s a W :=
  ⟨(hF.block b (Array.getElem?_eq_some_iff.1 h.box).1 h0).trans h.box, (hF.block _ (Array.getElem?_eq_some_iff.1 h.ptr).1 h1).trans h.ptr, (hF.block _ (Array.getElem?_eq_some_iff.1 h.plan).1 h2).trans h.plan, Fr.ext h.ext hF ha⟩

set_option maxRecDepth 20000 in
set_option maxHeartbeats 6400000 in
theorem iter03 (X : Wr) (hX : ValidW X) (l : List Wk) (hl : PlanOK X l) (p q pp : Option Addr) (c d pc b B s : Nat) (u : Value) (w : World) (E : Nat → Prop) (lp : Nat)
    (wa : World) (hIt : ItAt X l p q pp c d pc b s wa w) (hR : RecsAt wa q X.recs) (hG : IntsAt wa p X.rough) (hP : WksAt wa pp l)
    (hst : StAt X.recs.length B s u (startW X) w) (hwas : wa.heap.size ≤ s) (hb : b + 2 < w.heap.size) (hsb : s < b) (hBb : b + 3 ≤ B)
    (hE : ∀ k, E k → k < w.heap.size ∧ ¬Dst s u k ∧ wa.heap.size ≤ k ∧ k ≠ b ∧ k ≠ b + 1 ∧ k ≠ b + 2)
    (J Jx : List Nat → World → Prop) (hJ : ∀ pre W W', J pre W → Fr (fun k => Dst s u k ∨ w.heap.size + 2 ≤ k) W W' → w.heap.size + 2 ≤ W.heap.size → J pre W')
    (hJx : ∀ pre W W', Jx pre W → Fr (fun k => Dst s u k ∨ w.heap.size + 2 ≤ k) W W' → w.heap.size + 2 ≤ W.heap.size → Jx pre W')
    (hY : YieldD Try.prog lp (fun k : Nat => .int .i64 (k : Int)) (fun k => k < l.length) E w.heap.size (Sst X l B s u) J Jx)
    (W : World) (hW : Ext w W) (hz : w.heap.size + 2 ≤ W.heap.size) (hj : J [] W) :
    Calls Try.prog 88 #[.func (.yield lp) #[] #[], .pointer (some ⟨b + 2, 0, none⟩), .pointer (some ⟨b + 1, 0, none⟩), .pointer (some ⟨b, 0, none⟩)] W fun e W' =>
      (∃ v, e = .returned v) ∧ ((J (List.range l.length) W' ∧ StAt X.recs.length B s u (runTo X l l.length) W') ∨ ∃ pre, pre <+: List.range l.length ∧ Jx pre W') ∧ w.heap.size + 2 ≤ W'.heap.size := by
  have hwk6 : l.length ≤ 6 := by have := hl.1; have := hX.weeks; omega
  have h4 := hX.recs
  have hss : s < w.heap.size := (Array.getElem?_eq_some_iff.1 hst.1).1
  have hug : ∀ g, u.ownBlock = some g → B ≤ g ∧ g < w.heap.size := fun g hg => hst.2.lt g hg
  have HIT : Hid (∀ W, Fr (fun k => Dst s u k ∨ E k ∨ w.heap.size ≤ k) w W → ItAt X l p q pp c d pc b s wa W) := Lib.hid fun W hF => by
    refine hIt.fr hF ?_ ?_ ?_ ?_
    · rintro ((h | h) | h | h)
      · omega
      · have := hug _ h; omega
      · exact (hE _ h).2.2.2.1 rfl
      · omega
    · rintro ((h | h) | h | h)
      · omega
      · have := hug _ h; omega
      · exact (hE _ h).2.2.2.2.1 rfl
      · omega
    · rintro ((h | h) | h | h)
      · omega
      · have := hug _ h; omega
      · exact (hE _ h).2.2.2.2.2 rfl
      · omega
    · rintro k ((h | h) | h | h)
      · omega
      · have := hug _ h; omega
      · exact (hE _ h).2.2.1
      · omega
  have HRA := Lib.hid hR
  have HGA := Lib.hid hG
  have HPA := Lib.hid hP
  have HEE := Lib.hid hE
  have HJ := Lib.hid hJ
  have HJX := Lib.hid hJx
  have HY := Lib.hid hY
  have HUG := Lib.hid hug
  have HX := Lib.hid hX
  have HL := Lib.hid hl
  have HST := Lib.hid hst
  have HJ0 := Lib.hid hj
  have HW := Lib.hid hW
  have hI0 := HIT.out W (hW.fr _)
  have hpl := cell_of_heap hI0.plan 0
  simp at hpl
  clear hIt hE hJ hJx hY hug hX hl hst hj hW hI0 hR hG hP
  go_enter Try.func88, Try.ntmps88
  go_wp2
  go_loopw [13] (fun i wr => ∃ k : Nat, k ≤ l.length ∧ i = .int .i64 k ∧ StAt X.recs.length B s u (runTo X l k) wr ∧ J (List.range k) wr ∧ Fr (fun k => Dst s u k ∨ E k ∨ w.heap.size ≤ k) w wr ∧ w.heap.size + 2 ≤ wr.heap.size) (fun i _ => l.length - (intOf i).toNat)
  case atStart => exact ⟨0, by omega, rfl, HST.out.fr (HW.out.fr (fun _ => False)) (fun h => h) (fun _ _ h => h), HJ0.out, HW.out.fr _, hz⟩
  case round =>
    clear hpl HST HJ0 HW hz
    clear W
    obtain ⟨k, hk, rfl, hst, hj, hF, hz⟩ := hrel
    have HST := Lib.hid hst
    have HJK := Lib.hid hj
    have HF := Lib.hid hF
    have hIt := HIT.out wr hF
    have HI := Lib.hid hIt
    clear hst hj hF
    by_cases hlt : k < l.length
    · obtain ⟨pb, po, rq, rc, rfl, w1', w2', w3⟩ := HPA.out k hlt
      have w1 := hIt.ext.cell w1'
      have w2 := hIt.ext.cell w2'
      clear w1' w2'
      have hok := runTo_ok HX.out HL.out k hk
      have hwk := HL.out.2 _ (List.getElem_mem hlt)
      have hwka := wkAt_eq hlt
      obtain ⟨pk, hpk⟩ : ∃ pk, pk = l[k] := ⟨_, rfl⟩
      rw [← hpk] at w1 w2 w3 hwk hwka
      obtain ⟨x, hx⟩ : ∃ x, x = runTo X l k := ⟨_, rfl⟩
      rw [← hx] at hok
      have HXK := Lib.hid hx
      have HOK := Lib.hid hok
      have HWK := Lib.hid hwk
      have HWA := Lib.hid hwka
      rw [← hx] at HST
      clear hIt hpk hx hok hwk hwka
      go_upto_region 3 with (fail)
      obtain ⟨H, hH⟩ : ∃ H, H = wr.heap.size := ⟨_, rfl⟩
      have hn := heap_new wr (.cells #[.int .i64 pk.needle, .slice rq pk.recs.length rc] 61)
      obtain ⟨W1, hW1⟩ : ∃ W1, W1 = wr.alloc (.cells #[.int .i64 pk.needle, .slice rq pk.recs.length rc] 61) := ⟨_, rfl⟩
      have hE1 : Ext wr W1 := by rw [hW1]; exact Ext.alloc (Ext.refl _) _
      have hs1 : W1.heap.size = H + 1 := by rw [hW1, hH]; simp only [size_alloc]
      rw [← hW1, ← hH] at hn
      rw [← hW1, ← hH]
      have HN := Lib.hid hn
      have HE1 := Lib.hid hE1
      have HH := Lib.hid hH
      have hn0 := cell_of_heap hn 0
      simp at hn0
      clear hW1 hn hE1 hH w1 w2
      have HGG : Hid (∀ A C, Fr (Dst s u) A C → Fr (fun k => Dst s u k ∨ E k ∨ w.heap.size ≤ k) A C) := Lib.hid fun A C h => h.mono fun _ h => .inl h
      have HF1 : Hid (Fr (fun k => Dst s u k ∨ E k ∨ w.heap.size ≤ k) w W1) := Lib.hid (HF.out.trans (HE1.out.fr _))
      have HST1 : Hid (StAt X.recs.length B s u x W1) := Lib.hid (HST.out.fr (HE1.out.fr (fun _ => False)) (fun h => h) (fun _ _ h => h))
      have HD : Hid (∀ g, Dst s u g → g < w.heap.size ∧ g ≠ H ∧ g ≠ b ∧ g ≠ b + 1 ∧ g ≠ b + 2) := Lib.hid fun g hg => by
        have := HH.out
        rcases hg with rfl | hg
        · exact ⟨by omega, by omega, by omega, by omega, by omega⟩
        · have := HUG.out g hg
          exact ⟨by omega, by omega, by omega, by omega, by omega⟩
      have hx1 : ∀ x1, x1 = newW X pk x → StOK (9999 + 396 * k) (4995 * k + 999) (99999 + 39204 * k) x1 := fun x1 h => h ▸ new_ok HX.out pk HOK.out
      have HX1 := Lib.hid hx1
      clear hx1
      by_cases hq : pk.needle = 1
      · have hq' : (pk.needle == 1) = true := by simpa using hq
        have HQ := Lib.hid hq
        clear hq
        have hok := HOK.out
        have hpr := HX.out.price
        have hc := hok.cost
        have hI1 := HIT.out W1 HF1.out
        have d0 : ∀ z, Fr (fun k => k = s) W1 z → z.cell? ⟨b + 1, 0, none⟩ = some (.pointer (some ⟨s, 0, none⟩)) := fun z hz => hz.cell ((cell_of_heap hI1.ptr 0).trans rfl) (by omega)
        have d1 : ∀ z, Fr (fun k => k = s) W1 z → z.cell? ⟨b, 1, none⟩ = some (.int .i64 X.price) := fun z hz => hz.cell ((cell_of_heap hI1.box 1).trans rfl) (by omega)
        have d2 : W1.cell? ⟨s, 2, none⟩ = some (.int .i64 x.cost) := (cell_of_heap HST1.out.1 2).trans rfl
        have d3 : W1.cell? ⟨s, 1, none⟩ = some (.int .i64 x.age) := (cell_of_heap HST1.out.1 1).trans rfl
        have f1 := cell_frozen HST1.out.1 1
        have D0 := Lib.hid d0
        have D1 := Lib.hid d1
        have D2 := Lib.hid d2
        have hwr : IntKind.i64.wrap (x.cost + X.price) = x.cost + X.price := IntWalk.i64_in _ (by omega)
        clear hok hI1 d0 d1
        go_upto_region 4 with (fail)
        refine wp_region_heldT (fun z => z.cell? ⟨b + 1, 0, none⟩ = some (.pointer (some ⟨s, 0, none⟩)) ∧ z.cell? ⟨b, 1, none⟩ = some (.int .i64 X.price) ∧ z.cell? ⟨s, 2, none⟩ = some (.int .i64 x.cost)) 13
          [(true, 0), (true, 1), (true, 2), (true, 3), (true, 4), (true, 5), (true, 6), (true, 7), (true, 8), (true, 9), (true, 10), (true, 11), (false, 12)] (by kernel_rfl) (by kernel_rfl) ⟨D0.out _ (Fr.refl _ _).drew, D1.out _ (Fr.refl _ _).drew, D2.out⟩ ?_
        simp only [List.map_cons, List.map_nil, List.getElem?_cons_zero, List.getElem?_cons_succ]
        repeat (refine wpHL_take (v := ?_) (by rfl) ?_ (fun _ _ _ h => h) ?_; rotate_left 1; (intro z hz; (try dsimp only at hz); go_simp; (try with_reducible rfl)); simp only [Act.put, List.setIfInBounds_toArray, List.set_cons_zero, List.set_cons_succ])
        refine wpHL_step (fun K hK => ?_)
        go_simp
        refine hK.out _ _ ⟨D0.out _ ((Fr.refl _ _).drew.set rfl), D1.out _ ((Fr.refl _ _).drew.set rfl), ?_⟩ ?_
        · show (W1.setCell _ _).cell? _ = _
          rw [World.cell?_setCell_other _ _ _ _ (by simp)]
          exact D2.out
        clear hK K
        try simp only [Act.put, List.setIfInBounds_toArray, List.set_cons_zero, List.set_cons_succ]
        refine wpHL_nil ?_
        simp only [List.drop_succ_cons, List.drop_zero]
        generalize hW1' : World.drew (World.setCell _ _ _) = W1'
        have hs1' : W1'.heap[s]? = some (.cells #[u, .int .i64 0, .int .i64 x.cost] 93 (0, 0)) := by rw [← hW1']; exact heap_drew (heap_set HST1.out.1 rfl)
        have hF1' : Fr (fun k => k = s) W1 W1' := by rw [← hW1']; exact ((Fr.refl (fun k => k = s) W1).set rfl).drew
        have HS1' := Lib.hid hs1'
        have HF1' := Lib.hid hF1'
        have g0 := D0.out _ hF1'
        have g1 := cell_frozen hs1' 2
        have g2 : W1'.cell? ⟨s, 2, none⟩ = some (.int .i64 x.cost) := (cell_of_heap hs1' 2).trans rfl
        clear hW1' hs1' hF1' d2 d3 f1 D0 D1 D2
        go_upto_region 5 with (fail)
        generalize hW2' : World.setCell _ _ _ = W2
        have hs2 : W2.heap[s]? = some (.cells #[u, .int .i64 0, .int .i64 (x.cost + X.price)] 93 (0, 0)) := by rw [← hW2']; exact heap_set HS1'.out rfl
        have hF2 : Fr (fun k => k = s) W1 W2 := by rw [← hW2']; exact HF1'.out.set rfl
        have HS2 : Hid (StAt X.recs.length B s u (newW X pk x) W2) := Lib.hid (by rw [newW, if_pos HQ.out]; exact ⟨hs2, ownsRow_fr HST1.out.2 hF2 (fun g hg e => by have := HUG.out g hg; omega)⟩)
        have HFD : Hid (Fr (Dst s u) W1 W2) := Lib.hid (hF2.mono fun k h => .inl h)
        clear hW2' hs2 hF2 HS1' HF1' g0 g1 g2
        clear W1'
        obtain ⟨x1, hx1⟩ : ∃ x1, x1 = newW X pk x := ⟨_, rfl⟩
        rw [← hx1] at HS2
        have HO1 := Lib.hid (HX1.out x1 hx1)
        have HX1E := Lib.hid hx1
        clear hx1
        have hHH : ∀ z, Fr (Dst s u) W1 z → z.cell? ⟨H, 1, none⟩ = some (.slice rq pk.recs.length rc) := fun z hz => hz.cell ((cell_of_heap HN.out 1).trans rfl) (fun h => (HD.out H h).2.1 rfl)
        have hc1 := hHH W2 HFD.out
        have hri := HWK.out.1.len
        clear hHH hn0
        go_wp2
        go_loopw [38] (fun i wr => ∃ j : Nat, j ≤ pk.recs.length ∧ i = .int .i64 j ∧ StAt X.recs.length B s u ((pk.recs.take j).foldl (repW X) x1) wr ∧ Fr (Dst s u) W1 wr) (fun i _ => pk.recs.length - (intOf i).toNat)
        case atStart => exact ⟨0, by omega, rfl, HS2.out, HFD.out⟩
        case round =>
          clear hc1 HS2 HFD
          clear W2
          obtain ⟨j, hjl, rfl, hst2, hF2⟩ := hrel
          have HS2 := Lib.hid hst2
          have HFD := Lib.hid hF2
          have hI2 := HIT.out wr (HF1.out.trans (HGG.out _ _ hF2))
          have HI2 := Lib.hid hI2
          clear hst2 hF2
          by_cases hlj : j < pk.recs.length
          · obtain ⟨nb, no, rfl, hnc'⟩ := w3.at j hlj
            have hnc := hI2.ext.cell hnc'
            have hin := HWK.out.1.1 j hlj
            obtain ⟨nn, hnn⟩ := Int.eq_ofNat_of_zero_le hin.1
            have hnl : nn < X.recs.length := by omega
            rw [hnn] at hnc
            obtain ⟨rb, ro, rq', rc', rfl, -, -, hpc', -, -⟩ := HRA.out nn hnl
            have hpc := hI2.ext.cell hpc'
            have hrbl := lt_of_cell hpc'
            have hrec : X.recs[nn].price = (recW X nn).price := by rw [recW_eq hnl]
            obtain ⟨g, cap, rfl, hgc⟩ := ownsRow_at HS2.out.2 nn hnl
            have hokr := reps_ok HX.out (pk.recs.take j) HO1.out
            have hsn : (pk.recs.take (j + 1)).foldl (repW X) x1 = repW X ((pk.recs.take j).foldl (repW X) x1) pk.recs[j] := by rw [List.take_succ_eq_append_getElem hlj, List.foldl_append]; rfl
            obtain ⟨x2, hx2⟩ : ∃ x2, x2 = (pk.recs.take j).foldl (repW X) x1 := ⟨_, rfl⟩
            rw [← hx2] at HS2 hokr hsn hgc
            rw [hnn] at hsn
            have hpb := (rec_bd HX.out nn)
            rw [hrec] at hpc
            obtain ⟨pr, hpr⟩ : ∃ pr, pr = (recW X nn).price := ⟨_, rfl⟩
            rw [← hpr] at hpc hpb
            have hco := hokr.cost
            have hwr : IntKind.i64.wrap (x2.cost + pr) = x2.cost + pr := by
              have : ((pk.recs.take j).length : Int) ≤ 4 := by rw [List.length_take]; omega
              exact IntWalk.i64_in _ (by omega)
            have hgB := HUG.out g rfl
            have hgc2 : wr.cell? ⟨g, nn, none⟩ = some (.int .i64 (x2.worn nn)) := hgc.trans (wornL_get _ _ _ hnl)
            have hgf : wr.frozen? ⟨g, nn, none⟩ = false := ownsRow_frozen HS2.out.2
            have hS : ∀ z, Fr (fun k => k = g) wr z → z.cell? ⟨b + 1, 0, none⟩ = some (.pointer (some ⟨s, 0, none⟩)) ∧ z.cell? ⟨s, 0, none⟩ = some (.slice (some ⟨g, 0, none⟩) X.recs.length cap) ∧ z.cell? ⟨s, 2, none⟩ = some (.int .i64 x2.cost) ∧ z.cell? ⟨b, 5, none⟩ = some (.slice (some ⟨rb, ro, none⟩) X.recs.length d) ∧ z.cell? ⟨rb, ro + nn * 4 + 2, none⟩ = some (.int .i64 pr) := fun z hz =>
              ⟨hz.cell ((cell_of_heap hI2.ptr 0).trans rfl) (by omega), hz.cell ((cell_of_heap HS2.out.1 0).trans rfl) (by omega), hz.cell ((cell_of_heap HS2.out.1 2).trans rfl) (by omega), hz.cell ((cell_of_heap hI2.box 5).trans rfl) (by omega), hz.cell hpc (by omega)⟩
            have HSS := Lib.hid hS
            have HSN := Lib.hid hsn
            have HPR := Lib.hid hpr
            have HX2 := Lib.hid hx2
            clear hI2 hnc' hin hnn hpc' hpc hrec hgc hokr hsn hx2 hpr hpb hS hco hgB hrbl
            go_upto_region 8 with (fail)
            refine wp_region_heldT (fun z => z.cell? ⟨b + 1, 0, none⟩ = some (.pointer (some ⟨s, 0, none⟩)) ∧ z.cell? ⟨s, 0, none⟩ = some (.slice (some ⟨g, 0, none⟩) X.recs.length cap) ∧ z.cell? ⟨s, 2, none⟩ = some (.int .i64 x2.cost) ∧ z.cell? ⟨b, 5, none⟩ = some (.slice (some ⟨rb, ro, none⟩) X.recs.length d) ∧ z.cell? ⟨rb, ro + nn * 4 + 2, none⟩ = some (.int .i64 pr)) 20
              [(true, 0), (true, 1), (true, 2), (true, 3), (true, 4), (true, 5), (true, 6), (true, 7), (true, 8), (true, 9), (true, 10), (true, 11), (true, 12), (true, 13), (true, 14), (true, 15), (true, 16), (true, 17), (true, 18), (false, 19)] (by kernel_rfl) (by kernel_rfl) (HSS.out _ (Fr.refl _ _).drew) ?_
            simp only [List.map_cons, List.map_nil, List.getElem?_cons_zero, List.getElem?_cons_succ]
            repeat (refine wpHL_take (v := ?_) (by rfl) ?_ (fun _ _ _ h => h) ?_; rotate_left 1; (intro z hz; (try dsimp only at hz); go_simp; (try with_reducible rfl)); simp only [Act.put, List.setIfInBounds_toArray, List.set_cons_zero, List.set_cons_succ])
            refine wpHL_step (fun K hK => ?_)
            go_simp
            refine hK.out _ _ (HSS.out _ ((Fr.refl (fun k => k = g) wr).set rfl).drew) ?_
            clear hK K
            try simp only [Act.put, List.setIfInBounds_toArray, List.set_cons_zero, List.set_cons_succ]
            refine wpHL_nil ?_
            simp only [List.drop_succ_cons, List.drop_zero]
            generalize hWa : World.drew (World.setCell _ _ _) = Wa
            have hgs : g ≠ s := by have := HUG.out g rfl; omega
            have hFa : Fr (fun k => k = g) wr Wa := by rw [← hWa]; exact ((Fr.refl (fun k => k = g) wr).set rfl).drew
            have hsa : Wa.heap[s]? = some (.cells #[.slice (some ⟨g, 0, none⟩) X.recs.length cap, .int .i64 x2.age, .int .i64 x2.cost] 93 (0, 0)) := (hFa.block s (Array.getElem?_eq_some_iff.1 HS2.out.1).1 (by omega)).trans HS2.out.1
            have hoa : Wa.ownsRow B 3 1 (.slice (some ⟨g, 0, none⟩) X.recs.length cap) X.recs.length (intVs (wornL X.recs.length (updI x2.worn nn 0))) := by
              rw [← hWa, ← wornL_set]
              exact (ownsRow_setV (i := nn) (u := .int .i64 0) HS2.out.2).drew
            have HSA := Lib.hid hsa
            have HOA := Lib.hid hoa
            have HFA := Lib.hid hFa
            have v0 := (HSS.out Wa hFa).1
            have v2 := (HSS.out Wa hFa).2.2.1
            have v3 := cell_frozen hsa 2
            clear hWa hFa hsa hoa hgc2 hgf hgs
            go_wp2
            go_roundw
            case rel =>
              refine ⟨j + 1, by omega, by go_num, ⟨?_, ?_⟩, ?_⟩
              · rw [HSN.out]
                refine heap_set HSA.out ?_
                rw [HPR.out]
                rfl
              · rw [HSN.out]
                exact ownsRow_fr (E := fun k => k = s) HOA.out ((Fr.refl _ _).set rfl) (fun g' hg' e => by have e' : g' = s := e; have h1 : g = g' := Option.some.inj hg'; have := HUG.out g rfl; omega)
              · exact (HFD.out.trans (HFA.out.mono fun k h => .inr (by rw [h]; rfl))).set (.inl rfl)
            case measure => simp [intOf]; omega
          · obtain rfl : j = pk.recs.length := by omega
            rw [List.take_length] at HS2
            obtain ⟨x3, hx3⟩ : ∃ x3, x3 = pk.recs.foldl (repW X) x1 := ⟨_, rfl⟩
            rw [← hx3] at HS2
            have HO3 := Lib.hid (show StOK _ _ _ x3 from hx3 ▸ reps_ok HX.out pk.recs HO1.out)
            have HX3 := Lib.hid hx3
            have b5 := (cell_of_heap hI2.box 5).trans rfl
            clear hx3 hI2 hlj hjl
            go_wp2
            go_loopw [68] (fun i wr => ∃ j : Nat, j ≤ X.recs.length ∧ i = .int .i64 j ∧ StAt X.recs.length B s u (playsTo X k x3 j) wr ∧ Fr (Dst s u) W1 wr) (fun i _ => X.recs.length - (intOf i).toNat)
            case atStart => exact ⟨0, by omega, rfl, HS2.out, HFD.out⟩
            case round =>
              clear b5 HS2 HFD HI2
              obtain ⟨j, hjl, rfl, hst2, hF2⟩ := hrel
              have HS2 := Lib.hid hst2
              have HFD := Lib.hid hF2
              have hI2 := HIT.out wr (HF1.out.trans (HGG.out _ _ hF2))
              have HI2 := Lib.hid hI2
              clear hst2 hF2
              by_cases hlj : j < X.recs.length
              · obtain ⟨rb, ro, qb', cb, rfl, r1', r2', r3', r4', r5'⟩ := HRA.out j hlj
                have r1 := hI2.ext.cell r1'
                have r2 := hI2.ext.cell r2'
                have r3 := hI2.ext.cell r3'
                have r4 := hI2.ext.cell r4'
                obtain ⟨hkp, hpe⟩ := plays_eq (wk := k) HX.out hlj (by have := HL.out.1; omega)
                obtain ⟨qb, qo, rfl, hpc'⟩ := r5'.at k hkp
                have hqbl := lt_of_cell hpc'
                have hpc := hI2.ext.cell hpc'
                have hpb := playsW_bd HX.out k j
                obtain ⟨pn, hpn⟩ := Int.eq_ofNat_of_zero_le hpb.1
                rw [← hpe, hpn] at hpc
                rw [hpn] at hpb
                obtain ⟨g, cap, rfl, hgc⟩ := ownsRow_at HS2.out.2 j hlj
                have hok4 := playsTo_ok HX.out k HO3.out j
                have hsn := playsTo_succ X k x3 j
                obtain ⟨x4, hx4⟩ : ∃ x4, x4 = playsTo X k x3 j := ⟨_, rfl⟩
                rw [← hx4] at HS2 hok4 hsn hgc
                have hgw := hgc.trans (wornL_get _ _ _ hlj)
                have hage := hok4.age
                have hwj := hok4.worn j
                have hgb := grindW_bd HX.out hage.1 pn
                have hgB := HUG.out g rfl
                obtain ⟨gr, hgr⟩ : ∃ gr, gr = grindW X x4.age pn := ⟨_, rfl⟩
                have hwr : IntKind.i64.wrap (x4.worn j + gr) = x4.worn j + gr := IntWalk.i64_in _ (by rw [hgr]; omega)
                obtain ⟨rl, hrl⟩ : ∃ rl, rl = X.recs[j].plays.length := ⟨_, rfl⟩
                rw [← hrl] at r4 hkp
                have HGR := Lib.hid hgr
                have HPN := Lib.hid hpn
                have HSN := Lib.hid hsn
                have HX4 := Lib.hid hx4
                clear r1' r2' r3' r4' r5' hpc' hpe hpn hgc hok4 hsn hx4 hgr hgb hrl hwj
                go_upto_region 13 with (fail)
                obtain ⟨H5, hH5⟩ : ∃ H5, H5 = wr.heap.size := ⟨_, rfl⟩
                have hn5 := heap_new wr (.cells #[.int .i64 X.recs[j].worn, .int .i64 X.recs[j].limit, .int .i64 X.recs[j].price, .slice (some ⟨qb, qo, none⟩) rl cb] 54)
                obtain ⟨W5, hW5⟩ : ∃ W5, W5 = wr.alloc (.cells #[.int .i64 X.recs[j].worn, .int .i64 X.recs[j].limit, .int .i64 X.recs[j].price, .slice (some ⟨qb, qo, none⟩) rl cb] 54) := ⟨_, rfl⟩
                have hE5 : Ext wr W5 := by rw [hW5]; exact Ext.alloc (Ext.refl _) _
                rw [← hW5, ← hH5] at hn5
                rw [← hW5, ← hH5]
                have hsl := (Array.getElem?_eq_some_iff.1 HS2.out.1).1
                have hH5s : H5 ≠ s := by omega
                have hS : ∀ z, Fr (fun k => k = s) W5 z → z.cell? ⟨s, 0, none⟩ = some (.slice (some ⟨g, 0, none⟩) X.recs.length cap) → z.cell? ⟨b + 1, 0, none⟩ = some (.pointer (some ⟨s, 0, none⟩)) ∧ z.cell? ⟨s, 0, none⟩ = some (.slice (some ⟨g, 0, none⟩) X.recs.length cap) ∧ z.cell? ⟨g, j, none⟩ = some (.int .i64 (x4.worn j)) ∧
                    (z.cell? ⟨b, 0, none⟩ = some (.int .i64 X.weeks) ∧ z.cell? ⟨b, 1, none⟩ = some (.int .i64 X.price) ∧ z.cell? ⟨b, 2, none⟩ = some (.int .i64 X.age) ∧ z.cell? ⟨b, 3, none⟩ = some (.int .i64 X.step) ∧ z.cell? ⟨b, 4, none⟩ = some (.slice p X.rough.length c) ∧ z.cell? ⟨b, 5, none⟩ = some (.slice (some ⟨rb, ro, none⟩) X.recs.length d)) ∧
                    z.cell? ⟨H5, 3, none⟩ = some (.slice (some ⟨qb, qo, none⟩) rl cb) ∧ z.cell? ⟨qb, qo + k, none⟩ = some (.int .i64 pn) := fun z hz hz0 =>
                  have hq : ∀ {i o : Nat} {y : Value}, wr.cell? ⟨i, o, none⟩ = some y → i ≠ s → z.cell? ⟨i, o, none⟩ = some y := fun h hn => hz.cell (hE5.cell h) hn
                  ⟨hq ((cell_of_heap hI2.ptr 0).trans rfl) (by omega), hz0, hq hgw (by omega),
                    ⟨hq ((cell_of_heap hI2.box 0).trans rfl) (by omega), hq ((cell_of_heap hI2.box 1).trans rfl) (by omega), hq ((cell_of_heap hI2.box 2).trans rfl) (by omega), hq ((cell_of_heap hI2.box 3).trans rfl) (by omega), hq ((cell_of_heap hI2.box 4).trans rfl) (by omega), hq ((cell_of_heap hI2.box 5).trans rfl) (by omega)⟩,
                    hz.cell ((cell_of_heap hn5 3).trans rfl) hH5s, hq hpc (by omega)⟩
                have hs5 : W5.heap[s]? = some (.cells #[.slice (some ⟨g, 0, none⟩) X.recs.length cap, .int .i64 x4.age, .int .i64 x4.cost] 93 (0, 0)) := (Below.block hE5 s hsl).trans HS2.out.1
                have hwa5 : Ext wa W5 := hI2.ext.trans hE5
                have HPL : Hid (∀ z, Ext W5 z → Calls Try.prog 89 #[.pointer (some ⟨s, 1, none⟩), .agg #[.int .i64 X.weeks, .int .i64 X.price, .int .i64 X.age, .int .i64 X.step, .slice p X.rough.length c, .slice (some ⟨rb, ro, none⟩) X.recs.length d], .int .i64 pn] z (PlayPost X s 1 #[.slice (some ⟨g, 0, none⟩) X.recs.length cap, .int .i64 x4.age, .int .i64 x4.cost] 93 x4.age pn z)) := Lib.hid fun z hz =>
                  play03 _ X s 1 _ _ x4.age pn z ⟨_, _, _, _, rfl, HGA.out.ext (hwa5.trans hz), HRA.out.ext (hwa5.trans hz)⟩ HX.out ((Below.block hz s (by have := hE5.size; omega)).trans hs5) rfl hage.1 (by omega) (by omega) (fun w' hw' => by
                    have h1 : Ext wa w' := Fr.ext (hwa5.trans hz) hw' (fun i hi => by omega)
                    exact ⟨_, _, _, _, rfl, HGA.out.ext h1, HRA.out.ext h1⟩)
                have HSS := Lib.hid hS
                have HS5 := Lib.hid hs5
                have HE5 := Lib.hid hE5
                have hO5 := ownsRow_ext HS2.out.2 hE5
                have HO5 := Lib.hid hO5
                have hS0 := hS _ (Fr.refl (fun k => k = s) W5).drew ((cell_of_heap hs5 0).trans rfl)
                have HS0 := Lib.hid hS0
                clear hW5 hH5 hn5 hE5 r1 r2 r3 r4 hpc hgw hI2 hS hs5 hwa5 hO5 hS0
                refine wp_region_heldT (fun z => z.cell? ⟨b + 1, 0, none⟩ = some (.pointer (some ⟨s, 0, none⟩)) ∧ z.cell? ⟨s, 0, none⟩ = some (.slice (some ⟨g, 0, none⟩) X.recs.length cap) ∧ z.cell? ⟨g, j, none⟩ = some (.int .i64 (x4.worn j)) ∧
                    (z.cell? ⟨b, 0, none⟩ = some (.int .i64 X.weeks) ∧ z.cell? ⟨b, 1, none⟩ = some (.int .i64 X.price) ∧ z.cell? ⟨b, 2, none⟩ = some (.int .i64 X.age) ∧ z.cell? ⟨b, 3, none⟩ = some (.int .i64 X.step) ∧ z.cell? ⟨b, 4, none⟩ = some (.slice p X.rough.length c) ∧ z.cell? ⟨b, 5, none⟩ = some (.slice (some ⟨rb, ro, none⟩) X.recs.length d)) ∧
                    z.cell? ⟨H5, 3, none⟩ = some (.slice (some ⟨qb, qo, none⟩) rl cb) ∧ z.cell? ⟨qb, qo + k, none⟩ = some (.int .i64 pn)) 17
                  [(true, 0), (true, 1), (true, 2), (true, 3), (true, 4), (true, 5), (true, 6), (true, 7), (true, 8), (true, 9), (true, 10), (true, 11), (true, 12), (true, 13), (true, 14), (true, 15), (false, 16)] (by kernel_rfl) (by kernel_rfl) HS0.out ?_
                simp only [List.map_cons, List.map_nil, List.getElem?_cons_zero, List.getElem?_cons_succ]
                repeat (refine wpHL_take (v := ?_) (by rfl) ?_ (fun _ _ _ h => h) ?_; rotate_left 1; (intro z hz; (try dsimp only at hz); go_simp; (try with_reducible rfl)); simp only [Act.put, List.setIfInBounds_toArray, List.set_cons_zero, List.set_cons_succ])
                refine wpHL_step (fun K hK => ?_)
                go_simp
                refine (HPL.out _ (by repeat (first | exact Ext.refl _ | refine Ext.drew ?_))).mono ?_
                rintro e w6 ⟨rfl, hs6, hF6⟩
                rw [← HGR.out]
                simp only [List.setIfInBounds_toArray, List.set_cons_succ, List.set_cons_zero] at hs6
                have hF65 : Fr (fun k => k = s) W5 w6 := (Ext.fr (Ext.refl W5).drew _).trans hF6
                have HF65 := Lib.hid hF65
                have HS6 := Lib.hid hs6
                clear hF6
                refine hK.out _ _ (HSS.out w6 hF65 ((cell_of_heap hs6 0).trans rfl)) ?_
                clear hK K hs6 hF65
                try simp only [Act.put, List.setIfInBounds_toArray, List.set_cons_zero, List.set_cons_succ]
                refine wpHL_nil ?_
                simp only [List.drop_succ_cons, List.drop_zero]
                have ho6 : w6.ownsRow B 3 1 (.slice (some ⟨g, 0, none⟩) X.recs.length cap) X.recs.length (intVs (wornL X.recs.length x4.worn)) := ownsRow_fr HO5.out HF65.out (fun g' hg' e => by have e' : g' = s := e; have h1 : g = g' := Option.some.inj hg'; omega)
                have hg6 : w6.cell? ⟨g, j, none⟩ = some (.int .i64 (x4.worn j)) := (HSS.out w6 HF65.out ((cell_of_heap HS6.out 0).trans rfl)).2.2.1
                have hf6 : w6.frozen? ⟨g, j, none⟩ = false := ownsRow_frozen ho6
                have HO6 := Lib.hid ho6
                clear ho6
                go_wp2
                go_roundw
                case rel =>
                  refine ⟨j + 1, by omega, by go_num, ⟨?_, ?_⟩, ?_⟩
                  · rw [HSN.out]
                    refine heap_set_ne (by omega) ?_
                    rw [HS6.out]
                    show _ = some (Obj.cells #[_, .int .i64 (x4.age + playsW X k j), _] _ _)
                    rw [HPN.out]
                    rfl
                  · rw [HSN.out]
                    show _ = _ ∧ _
                    have h1 := ownsRow_setV (i := j) (u := .int .i64 (x4.worn j + gr)) HO6.out
                    rw [wornL_set] at h1
                    have h2 : (playW X k x4 j).worn = updI x4.worn j (x4.worn j + gr) := by
                      show updI x4.worn j (x4.worn j + grindW X x4.age (playsW X k j).toNat) = _
                      rw [HPN.out, Int.toNat_natCast, ← HGR.out]
                    rw [h2]
                    exact h1
                  · exact ((HFD.out.trans (HE5.out.fr _)).trans (HF65.out.mono fun k h => .inl h)).set (.inr rfl)
                case measure => simp [intOf]; omega
              · obtain rfl : j = X.recs.length := by omega
                have hrun : runTo X l (k + 1) = playsTo X k x3 X.recs.length := by
                  show weekW X (runTo X l k) k (wkAt l k) = _
                  unfold weekW
                  rw [HWA.out, ← HXK.out, HX3.out, HX1E.out]
                have hJ6 := HJ.out _ _ wr HJK.out ((HE1.out.fr _).trans (HFD.out.mono fun k h => .inl h)) hz
                have hz6 : w.heap.size + 2 ≤ wr.heap.size := by have := HE1.out.size; have := HFD.out.size; omega
                have hS6 : Sst X l B s u (List.range k ++ [k]) wr := by
                  refine ⟨by simp [List.range_succ], ?_⟩
                  rw [show (List.range k ++ [k]).length = k + 1 from by simp, hrun]
                  exact HS2.out
                obtain ⟨fn, tmps, ag, bd, hy, hR⟩ := HY.out (List.range k) k wr hlt hJ6 hS6 hz6
                have hR' := Lib.hid hR
                have hy' := Lib.hid hy
                have HRUN := Lib.hid hrun
                clear hy hR hrun hJ6 hS6 hI2
                go_upto_region 15 with (fail)
                have hy := hy'.out
                refine (wpIn_wide (n := 0)).1 ?_
                gi_wp2
                refine ⟨rfl, hR'.out.mono ?_⟩
                rintro e W7 ⟨(⟨rfl, hj7⟩ | ⟨rfl, hj7⟩), hF7⟩
                · have HJ7 := Lib.hid hj7
                  have HF7 := Lib.hid hF7
                  clear hj7 hF7 hy
                  gi_wp2
                  go_wp2
                  go_roundw
                  case rel =>
                    refine ⟨k + 1, by omega, by go_num, ?_, ?_, ?_, ?_⟩
                    · rw [HRUN.out]
                      refine HS2.out.fr HF7.out ?_ ?_
                      · rintro (h | h)
                        · exact (HEE.out _ h).2.1 (.inl rfl)
                        · omega
                      · rintro g hg (h | h)
                        · exact (HEE.out _ h).2.1 (.inr hg)
                        · have := HUG.out g hg; omega
                    · rw [List.range_succ]; exact HJ7.out
                    · exact (HF1.out.trans (HGG.out _ _ HFD.out)).trans (HF7.out.mono fun i h => h.elim (fun h => .inr (.inl h)) (fun h => .inr (.inr (by omega))))
                    · have := HF7.out.size; omega
                  case measure => simp [intOf]; omega
                · have HJ7 := Lib.hid hj7
                  have HF7 := Lib.hid hF7
                  clear hj7 hF7 hy
                  gi_wp2
                  go_wp2
                  refine bodyPost_ret (results_none rfl _ _ _) rfl ?_
                  refine ⟨⟨_, rfl⟩, .inr ⟨_, ?_, HJ7.out⟩, by have := HF7.out.size; omega⟩
                  rw [← List.range_succ]
                  exact List.prefix_iff_eq_take.2 (by rw [List.length_range, List.take_range, Nat.min_eq_left (by omega)])
      · have hq' : (pk.needle == 1) = false := by simpa using hq
        have HQ := Lib.hid hq
        clear hq
        go_upto_region 5 with (fail)
        obtain ⟨W2, hW2⟩ : ∃ W2, W2 = W1 := ⟨_, rfl⟩
        conv => arg 5; rw [← hW2]
        have HS2 : Hid (StAt X.recs.length B s u (newW X pk x) W2) := Lib.hid (by rw [hW2, newW, if_neg HQ.out]; exact HST1.out)
        have HFD : Hid (Fr (Dst s u) W1 W2) := Lib.hid (by rw [hW2]; exact Fr.refl _ _)
        clear hW2
        obtain ⟨x1, hx1⟩ : ∃ x1, x1 = newW X pk x := ⟨_, rfl⟩
        rw [← hx1] at HS2
        have HO1 := Lib.hid (HX1.out x1 hx1)
        have HX1E := Lib.hid hx1
        clear hx1
        have hHH : ∀ z, Fr (Dst s u) W1 z → z.cell? ⟨H, 1, none⟩ = some (.slice rq pk.recs.length rc) := fun z hz => hz.cell ((cell_of_heap HN.out 1).trans rfl) (fun h => (HD.out H h).2.1 rfl)
        have hc1 := hHH W2 HFD.out
        have hri := HWK.out.1.len
        clear hHH hn0
        go_wp2
        go_loopw [38] (fun i wr => ∃ j : Nat, j ≤ pk.recs.length ∧ i = .int .i64 j ∧ StAt X.recs.length B s u ((pk.recs.take j).foldl (repW X) x1) wr ∧ Fr (Dst s u) W1 wr) (fun i _ => pk.recs.length - (intOf i).toNat)
        case atStart => exact ⟨0, by omega, rfl, HS2.out, HFD.out⟩
        case round =>
          clear hc1 HS2 HFD
          clear W2
          obtain ⟨j, hjl, rfl, hst2, hF2⟩ := hrel
          have HS2 := Lib.hid hst2
          have HFD := Lib.hid hF2
          have hI2 := HIT.out wr (HF1.out.trans (HGG.out _ _ hF2))
          have HI2 := Lib.hid hI2
          clear hst2 hF2
          by_cases hlj : j < pk.recs.length
          · obtain ⟨nb, no, rfl, hnc'⟩ := w3.at j hlj
            have hnc := hI2.ext.cell hnc'
            have hin := HWK.out.1.1 j hlj
            obtain ⟨nn, hnn⟩ := Int.eq_ofNat_of_zero_le hin.1
            have hnl : nn < X.recs.length := by omega
            rw [hnn] at hnc
            obtain ⟨rb, ro, rq', rc', rfl, -, -, hpc', -, -⟩ := HRA.out nn hnl
            have hpc := hI2.ext.cell hpc'
            have hrbl := lt_of_cell hpc'
            have hrec : X.recs[nn].price = (recW X nn).price := by rw [recW_eq hnl]
            obtain ⟨g, cap, rfl, hgc⟩ := ownsRow_at HS2.out.2 nn hnl
            have hokr := reps_ok HX.out (pk.recs.take j) HO1.out
            have hsn : (pk.recs.take (j + 1)).foldl (repW X) x1 = repW X ((pk.recs.take j).foldl (repW X) x1) pk.recs[j] := by rw [List.take_succ_eq_append_getElem hlj, List.foldl_append]; rfl
            obtain ⟨x2, hx2⟩ : ∃ x2, x2 = (pk.recs.take j).foldl (repW X) x1 := ⟨_, rfl⟩
            rw [← hx2] at HS2 hokr hsn hgc
            rw [hnn] at hsn
            have hpb := (rec_bd HX.out nn)
            rw [hrec] at hpc
            obtain ⟨pr, hpr⟩ : ∃ pr, pr = (recW X nn).price := ⟨_, rfl⟩
            rw [← hpr] at hpc hpb
            have hco := hokr.cost
            have hwr : IntKind.i64.wrap (x2.cost + pr) = x2.cost + pr := by
              have : ((pk.recs.take j).length : Int) ≤ 4 := by rw [List.length_take]; omega
              exact IntWalk.i64_in _ (by omega)
            have hgB := HUG.out g rfl
            have hgc2 : wr.cell? ⟨g, nn, none⟩ = some (.int .i64 (x2.worn nn)) := hgc.trans (wornL_get _ _ _ hnl)
            have hgf : wr.frozen? ⟨g, nn, none⟩ = false := ownsRow_frozen HS2.out.2
            have hS : ∀ z, Fr (fun k => k = g) wr z → z.cell? ⟨b + 1, 0, none⟩ = some (.pointer (some ⟨s, 0, none⟩)) ∧ z.cell? ⟨s, 0, none⟩ = some (.slice (some ⟨g, 0, none⟩) X.recs.length cap) ∧ z.cell? ⟨s, 2, none⟩ = some (.int .i64 x2.cost) ∧ z.cell? ⟨b, 5, none⟩ = some (.slice (some ⟨rb, ro, none⟩) X.recs.length d) ∧ z.cell? ⟨rb, ro + nn * 4 + 2, none⟩ = some (.int .i64 pr) := fun z hz =>
              ⟨hz.cell ((cell_of_heap hI2.ptr 0).trans rfl) (by omega), hz.cell ((cell_of_heap HS2.out.1 0).trans rfl) (by omega), hz.cell ((cell_of_heap HS2.out.1 2).trans rfl) (by omega), hz.cell ((cell_of_heap hI2.box 5).trans rfl) (by omega), hz.cell hpc (by omega)⟩
            have HSS := Lib.hid hS
            have HSN := Lib.hid hsn
            have HPR := Lib.hid hpr
            have HX2 := Lib.hid hx2
            clear hI2 hnc' hin hnn hpc' hpc hrec hgc hokr hsn hx2 hpr hpb hS hco hgB hrbl
            go_upto_region 8 with (fail)
            refine wp_region_heldT (fun z => z.cell? ⟨b + 1, 0, none⟩ = some (.pointer (some ⟨s, 0, none⟩)) ∧ z.cell? ⟨s, 0, none⟩ = some (.slice (some ⟨g, 0, none⟩) X.recs.length cap) ∧ z.cell? ⟨s, 2, none⟩ = some (.int .i64 x2.cost) ∧ z.cell? ⟨b, 5, none⟩ = some (.slice (some ⟨rb, ro, none⟩) X.recs.length d) ∧ z.cell? ⟨rb, ro + nn * 4 + 2, none⟩ = some (.int .i64 pr)) 20
              [(true, 0), (true, 1), (true, 2), (true, 3), (true, 4), (true, 5), (true, 6), (true, 7), (true, 8), (true, 9), (true, 10), (true, 11), (true, 12), (true, 13), (true, 14), (true, 15), (true, 16), (true, 17), (true, 18), (false, 19)] (by kernel_rfl) (by kernel_rfl) (HSS.out _ (Fr.refl _ _).drew) ?_
            simp only [List.map_cons, List.map_nil, List.getElem?_cons_zero, List.getElem?_cons_succ]
            repeat (refine wpHL_take (v := ?_) (by rfl) ?_ (fun _ _ _ h => h) ?_; rotate_left 1; (intro z hz; (try dsimp only at hz); go_simp; (try with_reducible rfl)); simp only [Act.put, List.setIfInBounds_toArray, List.set_cons_zero, List.set_cons_succ])
            refine wpHL_step (fun K hK => ?_)
            go_simp
            refine hK.out _ _ (HSS.out _ ((Fr.refl (fun k => k = g) wr).set rfl).drew) ?_
            clear hK K
            try simp only [Act.put, List.setIfInBounds_toArray, List.set_cons_zero, List.set_cons_succ]
            refine wpHL_nil ?_
            simp only [List.drop_succ_cons, List.drop_zero]
            generalize hWa : World.drew (World.setCell _ _ _) = Wa
            have hgs : g ≠ s := by have := HUG.out g rfl; omega
            have hFa : Fr (fun k => k = g) wr Wa := by rw [← hWa]; exact ((Fr.refl (fun k => k = g) wr).set rfl).drew
            have hsa : Wa.heap[s]? = some (.cells #[.slice (some ⟨g, 0, none⟩) X.recs.length cap, .int .i64 x2.age, .int .i64 x2.cost] 93 (0, 0)) := (hFa.block s (Array.getElem?_eq_some_iff.1 HS2.out.1).1 (by omega)).trans HS2.out.1
            have hoa : Wa.ownsRow B 3 1 (.slice (some ⟨g, 0, none⟩) X.recs.length cap) X.recs.length (intVs (wornL X.recs.length (updI x2.worn nn 0))) := by
              rw [← hWa, ← wornL_set]
              exact (ownsRow_setV (i := nn) (u := .int .i64 0) HS2.out.2).drew
            have HSA := Lib.hid hsa
            have HOA := Lib.hid hoa
            have HFA := Lib.hid hFa
            have v0 := (HSS.out Wa hFa).1
            have v2 := (HSS.out Wa hFa).2.2.1
            have v3 := cell_frozen hsa 2
            clear hWa hFa hsa hoa hgc2 hgf hgs
            go_wp2
            go_roundw
            case rel =>
              refine ⟨j + 1, by omega, by go_num, ⟨?_, ?_⟩, ?_⟩
              · rw [HSN.out]
                refine heap_set HSA.out ?_
                rw [HPR.out]
                rfl
              · rw [HSN.out]
                exact ownsRow_fr (E := fun k => k = s) HOA.out ((Fr.refl _ _).set rfl) (fun g' hg' e => by have e' : g' = s := e; have h1 : g = g' := Option.some.inj hg'; have := HUG.out g rfl; omega)
              · exact (HFD.out.trans (HFA.out.mono fun k h => .inr (by rw [h]; rfl))).set (.inl rfl)
            case measure => simp [intOf]; omega
          · obtain rfl : j = pk.recs.length := by omega
            rw [List.take_length] at HS2
            obtain ⟨x3, hx3⟩ : ∃ x3, x3 = pk.recs.foldl (repW X) x1 := ⟨_, rfl⟩
            rw [← hx3] at HS2
            have HO3 := Lib.hid (show StOK _ _ _ x3 from hx3 ▸ reps_ok HX.out pk.recs HO1.out)
            have HX3 := Lib.hid hx3
            have b5 := (cell_of_heap hI2.box 5).trans rfl
            clear hx3 hI2 hlj hjl
            go_wp2
            go_loopw [68] (fun i wr => ∃ j : Nat, j ≤ X.recs.length ∧ i = .int .i64 j ∧ StAt X.recs.length B s u (playsTo X k x3 j) wr ∧ Fr (Dst s u) W1 wr) (fun i _ => X.recs.length - (intOf i).toNat)
            case atStart => exact ⟨0, by omega, rfl, HS2.out, HFD.out⟩
            case round =>
              clear b5 HS2 HFD HI2
              obtain ⟨j, hjl, rfl, hst2, hF2⟩ := hrel
              have HS2 := Lib.hid hst2
              have HFD := Lib.hid hF2
              have hI2 := HIT.out wr (HF1.out.trans (HGG.out _ _ hF2))
              have HI2 := Lib.hid hI2
              clear hst2 hF2
              by_cases hlj : j < X.recs.length
              · obtain ⟨rb, ro, qb', cb, rfl, r1', r2', r3', r4', r5'⟩ := HRA.out j hlj
                have r1 := hI2.ext.cell r1'
                have r2 := hI2.ext.cell r2'
                have r3 := hI2.ext.cell r3'
                have r4 := hI2.ext.cell r4'
                obtain ⟨hkp, hpe⟩ := plays_eq (wk := k) HX.out hlj (by have := HL.out.1; omega)
                obtain ⟨qb, qo, rfl, hpc'⟩ := r5'.at k hkp
                have hqbl := lt_of_cell hpc'
                have hpc := hI2.ext.cell hpc'
                have hpb := playsW_bd HX.out k j
                obtain ⟨pn, hpn⟩ := Int.eq_ofNat_of_zero_le hpb.1
                rw [← hpe, hpn] at hpc
                rw [hpn] at hpb
                obtain ⟨g, cap, rfl, hgc⟩ := ownsRow_at HS2.out.2 j hlj
                have hok4 := playsTo_ok HX.out k HO3.out j
                have hsn := playsTo_succ X k x3 j
                obtain ⟨x4, hx4⟩ : ∃ x4, x4 = playsTo X k x3 j := ⟨_, rfl⟩
                rw [← hx4] at HS2 hok4 hsn hgc
                have hgw := hgc.trans (wornL_get _ _ _ hlj)
                have hage := hok4.age
                have hwj := hok4.worn j
                have hgb := grindW_bd HX.out hage.1 pn
                have hgB := HUG.out g rfl
                obtain ⟨gr, hgr⟩ : ∃ gr, gr = grindW X x4.age pn := ⟨_, rfl⟩
                have hwr : IntKind.i64.wrap (x4.worn j + gr) = x4.worn j + gr := IntWalk.i64_in _ (by rw [hgr]; omega)
                obtain ⟨rl, hrl⟩ : ∃ rl, rl = X.recs[j].plays.length := ⟨_, rfl⟩
                rw [← hrl] at r4 hkp
                have HGR := Lib.hid hgr
                have HPN := Lib.hid hpn
                have HSN := Lib.hid hsn
                have HX4 := Lib.hid hx4
                clear r1' r2' r3' r4' r5' hpc' hpe hpn hgc hok4 hsn hx4 hgr hgb hrl hwj
                go_upto_region 13 with (fail)
                obtain ⟨H5, hH5⟩ : ∃ H5, H5 = wr.heap.size := ⟨_, rfl⟩
                have hn5 := heap_new wr (.cells #[.int .i64 X.recs[j].worn, .int .i64 X.recs[j].limit, .int .i64 X.recs[j].price, .slice (some ⟨qb, qo, none⟩) rl cb] 54)
                obtain ⟨W5, hW5⟩ : ∃ W5, W5 = wr.alloc (.cells #[.int .i64 X.recs[j].worn, .int .i64 X.recs[j].limit, .int .i64 X.recs[j].price, .slice (some ⟨qb, qo, none⟩) rl cb] 54) := ⟨_, rfl⟩
                have hE5 : Ext wr W5 := by rw [hW5]; exact Ext.alloc (Ext.refl _) _
                rw [← hW5, ← hH5] at hn5
                rw [← hW5, ← hH5]
                have hsl := (Array.getElem?_eq_some_iff.1 HS2.out.1).1
                have hH5s : H5 ≠ s := by omega
                have hS : ∀ z, Fr (fun k => k = s) W5 z → z.cell? ⟨s, 0, none⟩ = some (.slice (some ⟨g, 0, none⟩) X.recs.length cap) → z.cell? ⟨b + 1, 0, none⟩ = some (.pointer (some ⟨s, 0, none⟩)) ∧ z.cell? ⟨s, 0, none⟩ = some (.slice (some ⟨g, 0, none⟩) X.recs.length cap) ∧ z.cell? ⟨g, j, none⟩ = some (.int .i64 (x4.worn j)) ∧
                    (z.cell? ⟨b, 0, none⟩ = some (.int .i64 X.weeks) ∧ z.cell? ⟨b, 1, none⟩ = some (.int .i64 X.price) ∧ z.cell? ⟨b, 2, none⟩ = some (.int .i64 X.age) ∧ z.cell? ⟨b, 3, none⟩ = some (.int .i64 X.step) ∧ z.cell? ⟨b, 4, none⟩ = some (.slice p X.rough.length c) ∧ z.cell? ⟨b, 5, none⟩ = some (.slice (some ⟨rb, ro, none⟩) X.recs.length d)) ∧
                    z.cell? ⟨H5, 3, none⟩ = some (.slice (some ⟨qb, qo, none⟩) rl cb) ∧ z.cell? ⟨qb, qo + k, none⟩ = some (.int .i64 pn) := fun z hz hz0 =>
                  have hq : ∀ {i o : Nat} {y : Value}, wr.cell? ⟨i, o, none⟩ = some y → i ≠ s → z.cell? ⟨i, o, none⟩ = some y := fun h hn => hz.cell (hE5.cell h) hn
                  ⟨hq ((cell_of_heap hI2.ptr 0).trans rfl) (by omega), hz0, hq hgw (by omega),
                    ⟨hq ((cell_of_heap hI2.box 0).trans rfl) (by omega), hq ((cell_of_heap hI2.box 1).trans rfl) (by omega), hq ((cell_of_heap hI2.box 2).trans rfl) (by omega), hq ((cell_of_heap hI2.box 3).trans rfl) (by omega), hq ((cell_of_heap hI2.box 4).trans rfl) (by omega), hq ((cell_of_heap hI2.box 5).trans rfl) (by omega)⟩,
                    hz.cell ((cell_of_heap hn5 3).trans rfl) hH5s, hq hpc (by omega)⟩
                have hs5 : W5.heap[s]? = some (.cells #[.slice (some ⟨g, 0, none⟩) X.recs.length cap, .int .i64 x4.age, .int .i64 x4.cost] 93 (0, 0)) := (Below.block hE5 s hsl).trans HS2.out.1
                have hwa5 : Ext wa W5 := hI2.ext.trans hE5
                have HPL : Hid (∀ z, Ext W5 z → Calls Try.prog 89 #[.pointer (some ⟨s, 1, none⟩), .agg #[.int .i64 X.weeks, .int .i64 X.price, .int .i64 X.age, .int .i64 X.step, .slice p X.rough.length c, .slice (some ⟨rb, ro, none⟩) X.recs.length d], .int .i64 pn] z (PlayPost X s 1 #[.slice (some ⟨g, 0, none⟩) X.recs.length cap, .int .i64 x4.age, .int .i64 x4.cost] 93 x4.age pn z)) := Lib.hid fun z hz =>
                  play03 _ X s 1 _ _ x4.age pn z ⟨_, _, _, _, rfl, HGA.out.ext (hwa5.trans hz), HRA.out.ext (hwa5.trans hz)⟩ HX.out ((Below.block hz s (by have := hE5.size; omega)).trans hs5) rfl hage.1 (by omega) (by omega) (fun w' hw' => by
                    have h1 : Ext wa w' := Fr.ext (hwa5.trans hz) hw' (fun i hi => by omega)
                    exact ⟨_, _, _, _, rfl, HGA.out.ext h1, HRA.out.ext h1⟩)
                have HSS := Lib.hid hS
                have HS5 := Lib.hid hs5
                have HE5 := Lib.hid hE5
                have hO5 := ownsRow_ext HS2.out.2 hE5
                have HO5 := Lib.hid hO5
                have hS0 := hS _ (Fr.refl (fun k => k = s) W5).drew ((cell_of_heap hs5 0).trans rfl)
                have HS0 := Lib.hid hS0
                clear hW5 hH5 hn5 hE5 r1 r2 r3 r4 hpc hgw hI2 hS hs5 hwa5 hO5 hS0
                refine wp_region_heldT (fun z => z.cell? ⟨b + 1, 0, none⟩ = some (.pointer (some ⟨s, 0, none⟩)) ∧ z.cell? ⟨s, 0, none⟩ = some (.slice (some ⟨g, 0, none⟩) X.recs.length cap) ∧ z.cell? ⟨g, j, none⟩ = some (.int .i64 (x4.worn j)) ∧
                    (z.cell? ⟨b, 0, none⟩ = some (.int .i64 X.weeks) ∧ z.cell? ⟨b, 1, none⟩ = some (.int .i64 X.price) ∧ z.cell? ⟨b, 2, none⟩ = some (.int .i64 X.age) ∧ z.cell? ⟨b, 3, none⟩ = some (.int .i64 X.step) ∧ z.cell? ⟨b, 4, none⟩ = some (.slice p X.rough.length c) ∧ z.cell? ⟨b, 5, none⟩ = some (.slice (some ⟨rb, ro, none⟩) X.recs.length d)) ∧
                    z.cell? ⟨H5, 3, none⟩ = some (.slice (some ⟨qb, qo, none⟩) rl cb) ∧ z.cell? ⟨qb, qo + k, none⟩ = some (.int .i64 pn)) 17
                  [(true, 0), (true, 1), (true, 2), (true, 3), (true, 4), (true, 5), (true, 6), (true, 7), (true, 8), (true, 9), (true, 10), (true, 11), (true, 12), (true, 13), (true, 14), (true, 15), (false, 16)] (by kernel_rfl) (by kernel_rfl) HS0.out ?_
                simp only [List.map_cons, List.map_nil, List.getElem?_cons_zero, List.getElem?_cons_succ]
                repeat (refine wpHL_take (v := ?_) (by rfl) ?_ (fun _ _ _ h => h) ?_; rotate_left 1; (intro z hz; (try dsimp only at hz); go_simp; (try with_reducible rfl)); simp only [Act.put, List.setIfInBounds_toArray, List.set_cons_zero, List.set_cons_succ])
                refine wpHL_step (fun K hK => ?_)
                go_simp
                refine (HPL.out _ (by repeat (first | exact Ext.refl _ | refine Ext.drew ?_))).mono ?_
                rintro e w6 ⟨rfl, hs6, hF6⟩
                rw [← HGR.out]
                simp only [List.setIfInBounds_toArray, List.set_cons_succ, List.set_cons_zero] at hs6
                have hF65 : Fr (fun k => k = s) W5 w6 := (Ext.fr (Ext.refl W5).drew _).trans hF6
                have HF65 := Lib.hid hF65
                have HS6 := Lib.hid hs6
                clear hF6
                refine hK.out _ _ (HSS.out w6 hF65 ((cell_of_heap hs6 0).trans rfl)) ?_
                clear hK K hs6 hF65
                try simp only [Act.put, List.setIfInBounds_toArray, List.set_cons_zero, List.set_cons_succ]
                refine wpHL_nil ?_
                simp only [List.drop_succ_cons, List.drop_zero]
                have ho6 : w6.ownsRow B 3 1 (.slice (some ⟨g, 0, none⟩) X.recs.length cap) X.recs.length (intVs (wornL X.recs.length x4.worn)) := ownsRow_fr HO5.out HF65.out (fun g' hg' e => by have e' : g' = s := e; have h1 : g = g' := Option.some.inj hg'; omega)
                have hg6 : w6.cell? ⟨g, j, none⟩ = some (.int .i64 (x4.worn j)) := (HSS.out w6 HF65.out ((cell_of_heap HS6.out 0).trans rfl)).2.2.1
                have hf6 : w6.frozen? ⟨g, j, none⟩ = false := ownsRow_frozen ho6
                have HO6 := Lib.hid ho6
                clear ho6
                go_wp2
                go_roundw
                case rel =>
                  refine ⟨j + 1, by omega, by go_num, ⟨?_, ?_⟩, ?_⟩
                  · rw [HSN.out]
                    refine heap_set_ne (by omega) ?_
                    rw [HS6.out]
                    show _ = some (Obj.cells #[_, .int .i64 (x4.age + playsW X k j), _] _ _)
                    rw [HPN.out]
                    rfl
                  · rw [HSN.out]
                    show _ = _ ∧ _
                    have h1 := ownsRow_setV (i := j) (u := .int .i64 (x4.worn j + gr)) HO6.out
                    rw [wornL_set] at h1
                    have h2 : (playW X k x4 j).worn = updI x4.worn j (x4.worn j + gr) := by
                      show updI x4.worn j (x4.worn j + grindW X x4.age (playsW X k j).toNat) = _
                      rw [HPN.out, Int.toNat_natCast, ← HGR.out]
                    rw [h2]
                    exact h1
                  · exact ((HFD.out.trans (HE5.out.fr _)).trans (HF65.out.mono fun k h => .inl h)).set (.inr rfl)
                case measure => simp [intOf]; omega
              · obtain rfl : j = X.recs.length := by omega
                have hrun : runTo X l (k + 1) = playsTo X k x3 X.recs.length := by
                  show weekW X (runTo X l k) k (wkAt l k) = _
                  unfold weekW
                  rw [HWA.out, ← HXK.out, HX3.out, HX1E.out]
                have hJ6 := HJ.out _ _ wr HJK.out ((HE1.out.fr _).trans (HFD.out.mono fun k h => .inl h)) hz
                have hz6 : w.heap.size + 2 ≤ wr.heap.size := by have := HE1.out.size; have := HFD.out.size; omega
                have hS6 : Sst X l B s u (List.range k ++ [k]) wr := by
                  refine ⟨by simp [List.range_succ], ?_⟩
                  rw [show (List.range k ++ [k]).length = k + 1 from by simp, hrun]
                  exact HS2.out
                obtain ⟨fn, tmps, ag, bd, hy, hR⟩ := HY.out (List.range k) k wr hlt hJ6 hS6 hz6
                have hR' := Lib.hid hR
                have hy' := Lib.hid hy
                have HRUN := Lib.hid hrun
                clear hy hR hrun hJ6 hS6 hI2
                go_upto_region 15 with (fail)
                have hy := hy'.out
                refine (wpIn_wide (n := 0)).1 ?_
                gi_wp2
                refine ⟨rfl, hR'.out.mono ?_⟩
                rintro e W7 ⟨(⟨rfl, hj7⟩ | ⟨rfl, hj7⟩), hF7⟩
                · have HJ7 := Lib.hid hj7
                  have HF7 := Lib.hid hF7
                  clear hj7 hF7 hy
                  gi_wp2
                  go_wp2
                  go_roundw
                  case rel =>
                    refine ⟨k + 1, by omega, by go_num, ?_, ?_, ?_, ?_⟩
                    · rw [HRUN.out]
                      refine HS2.out.fr HF7.out ?_ ?_
                      · rintro (h | h)
                        · exact (HEE.out _ h).2.1 (.inl rfl)
                        · omega
                      · rintro g hg (h | h)
                        · exact (HEE.out _ h).2.1 (.inr hg)
                        · have := HUG.out g hg; omega
                    · rw [List.range_succ]; exact HJ7.out
                    · exact (HF1.out.trans (HGG.out _ _ HFD.out)).trans (HF7.out.mono fun i h => h.elim (fun h => .inr (.inl h)) (fun h => .inr (.inr (by omega))))
                    · have := HF7.out.size; omega
                  case measure => simp [intOf]; omega
                · have HJ7 := Lib.hid hj7
                  have HF7 := Lib.hid hF7
                  clear hj7 hF7 hy
                  gi_wp2
                  go_wp2
                  refine bodyPost_ret (results_none rfl _ _ _) rfl ?_
                  refine ⟨⟨_, rfl⟩, .inr ⟨_, ?_, HJ7.out⟩, by have := HF7.out.size; omega⟩
                  rw [← List.range_succ]
                  exact List.prefix_iff_eq_take.2 (by rw [List.length_range, List.take_range, Nat.min_eq_left (by omega)])
    · obtain rfl : k = l.length := by omega
      go_wp2
      go_end0
      exact ⟨⟨_, rfl⟩, .inl ⟨HJK.out, HST.out⟩, hz⟩
end Go.Proofs.Ytkcilgjkdiopnaa
