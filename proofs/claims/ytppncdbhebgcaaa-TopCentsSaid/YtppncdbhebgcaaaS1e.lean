
/- TopCents: the walk of weigh. -/
import Derived.Test.YtppncdbhebgcaaaS1d
import Derived.Test.YtppncdbhebgcaaaE4e
import Derived.Test.YtppncdbhebgcaaaYA
namespace Go.Proofs.Ytppncdbhebgcaaa
open Go.RowKit

theorem own_keepS {w w' : World} {B size n : Nat} {e : TypeId} {v : Value} {xs : List Value} (h : w.ownsRow B e size v n xs) (hk : ∀ y, v.ownBlock = some y → w'.heap[y]? = w.heap[y]?) : w'.ownsRow B e size v n xs := by
  refine ⟨h.1, ?_⟩
  rcases h.2 with h0 | ⟨g, cap, cur, hv, hB, hg, hr⟩
  · exact Or.inl h0
  · exact Or.inr ⟨g, cap, cur, hv, hB, (hk g (by rw [hv]; rfl)).trans hg, hr⟩
/-- weights at work -/
structure WgS (w wr : World) (s0 b g n : Nat) (rc : Array Value) (of : List Int) (all : Int) : Prop where
  ext : Ext w wr
  lt : w.heap.size ≤ s0 ∧ s0 < b ∧ b < g
  m0 : wr.heap[s0]? = some (.cells rc 28)
  mb : wr.heap[b]? = some (.cells #[.slice (some ⟨g, 0, none⟩) n n, .int .i64 all] 78)
  O : wr.ownsRow g 3 1 (.slice (some ⟨g, 0, none⟩) n n) n (intVs of)
section
variable {w wr wr' : World} {s0 b g n : Nat} {rc : Array Value} {of : List Int} {all : Int}
theorem WgS.ext' (h : WgS w wr s0 b g n rc of all) (hE : Ext wr wr') : WgS w wr' s0 b g n rc of all :=
  ⟨h.ext.trans hE, h.lt, heap_ext3 h.m0 hE, heap_ext3 h.mb hE, ownsRow_ext h.O hE⟩
theorem WgS.setAll (h : WgS w wr s0 b g n rc of all) (all' : Int) : WgS w (wr.setCell ⟨b, 1, none⟩ (.int .i64 all')) s0 b g n rc of all' := by
  obtain ⟨l1, l2, l3⟩ := h.lt
  exact ⟨h.ext.setCell (p := ⟨b, 1, none⟩) (by show w.heap.size ≤ b; omega) _, h.lt, heap_set_ne (by omega) h.m0, heap_set h.mb rfl, ownsRow_off h.O l3⟩
theorem WgS.setOf (h : WgS w wr s0 b g n rc of all) (i : Nat) (x : Int) : WgS w (wr.setCell ⟨g, i, none⟩ (.int .i64 x)) s0 b g n rc (of.set i x) all := by
  obtain ⟨l1, l2, l3⟩ := h.lt
  exact ⟨h.ext.setCell (p := ⟨g, i, none⟩) (by show w.heap.size ≤ g; omega) _, h.lt, heap_set_ne (by omega) h.m0, heap_set_ne (by omega) h.mb, ownsRow_set h.O⟩
theorem WgS.lt2 (h : WgS w wr s0 b g n rc of all) : g < wr.heap.size := by
  rcases h.O.2 with ⟨hv, -⟩ | ⟨g', cap, cur, hv, hB, hg, -⟩
  · cases hv
  · cases hv; exact (Array.getElem?_eq_some_iff.1 hg).1
end
theorem pct_mono {n : Nat} {s : Sd} (h : SideOK n s) (j : Nat) : ∀ d, j + d ≤ s.parts.length → pctS (s.parts.take j) ≤ pctS (s.parts.take (j + d))
  | 0, _ => Int.le_refl _
  | d + 1, hd => by
    have ih := pct_mono h j d (by omega)
    have h1 := (h.pa (j + d) (by omega)).p1
    rw [getP_at1 (by omega)] at h1
    rw [show j + (d + 1) = j + d + 1 from rfl, pct_snoc (by omega)]
    omega
theorem pct_le100 {n : Nat} {s : Sd} (h : SideOK n s) (j : Nat) (hj : j ≤ s.parts.length) : pctS (s.parts.take j) ≤ 100 := by
  have := pct_mono h j (s.parts.length - j) (by omega)
  rw [show j + (s.parts.length - j) = s.parts.length by omega, List.take_length, h.sm] at this
  exact this

/-- the weights of a royal -/
def RetWg (of : List Int) (all : Int) (n : Nat) (w : World) (e : Ending) (w' : World) : Prop :=
  ∃ g, e = .returned (.tuple #[.agg #[.slice (some ⟨g, 0, none⟩) n n, .int .i64 all], .int .i64 0]) ∧ Ext w w' ∧ IntsAt w' (some ⟨g, 0, none⟩) of
theorem weighEnd {w W : World} {b g n : Nat} {of : List Int} {all : Int} {a : Act} (hm : W.heap[b]? = some (.cells #[.slice (some ⟨g, 0, none⟩) n n, .int .i64 all] 78)) (hE : Ext w W) (hI : IntsAt W (some ⟨g, 0, none⟩) of)
    (ha : a.tmps[4]? = some (.pointer (some ⟨b, 0, none⟩))) (h5 : a.tmps[5]? = some (.int .i64 0)) (hd : a.defers = []) : bodyPost Try.prog Try.f27 (RetWg of all n w) .ret a W := by
  have c0 := cell_of_heap hm 0
  have c1 := cell_of_heap hm 1
  simp at c0 c1
  refine bodyPost_ret (v := .tuple #[.agg #[.slice (some ⟨g, 0, none⟩) n n, .int .i64 all], .int .i64 0]) ?_ hd ⟨g, rfl, hE, hI⟩
  cases a with
  | mk tm df =>
    simp only at ha h5
    simp [results, Try.results27, go_sem, ha, h5, c0, c1]

set_option maxRecDepth 20000 in
set_option maxHeartbeats 6400000 in
theorem weigh10 (R : Ry) (v : Value) (w : World) (hv : RyV w v R) (hR : RyOK R) (hps : ∀ s ∈ R.sides, s.parts.length ≤ 1000) (h0 : playsR R ≠ 0) :
    Calls Try.prog 27 #[v, .bool true] w (RetWg (ofW R) (allW R) R.owed.length w) := by
  have HCK := Lib.hid (fun y (h : Ext w y) => Check10 R v y (hv.ext h) hR hps)
  obtain ⟨p, c, q, d, rfl, hp, hq⟩ := hv
  have HP := Lib.hid hp
  have HR := Lib.hid hR
  have HPS := Lib.hid hps
  have hnw := hR.nw
  have hns := hR.ns
  have H0 := Lib.hid h0
  obtain ⟨pl, hpl⟩ : ∃ x, x = R.pool := ⟨_, rfl⟩
  rw [← hpl] at HCK ⊢
  obtain ⟨n, hn⟩ : ∃ n, n = R.owed.length := ⟨_, rfl⟩
  have HN := Lib.hid hn
  rw [← hn] at hnw HCK ⊢
  have hmk := fun y => make_i n (by omega) y
  clear hp hq hR hps hpl h0 hn
  go_enter Try.func27, Try.ntmps27
  go_upto_region 1 with (fail)
  obtain ⟨s0, hs0⟩ : ∃ s0, s0 = w.heap.size := ⟨_, rfl⟩
  obtain ⟨rc, hrc⟩ : ∃ rc : Array Value, rc = #[.int .i64 pl, .slice p R.sides.length c, .slice q n d] := ⟨_, rfl⟩
  obtain ⟨W1, hW1⟩ : ∃ W1, W1 = w.alloc (.cells #[.int .i64 pl, .slice p R.sides.length c, .slice q n d] 28) := ⟨_, rfl⟩
  obtain ⟨W, hW⟩ : ∃ W, W = W1.alloc (.cells #[.slice none 0 0, .int .i64 0] 78) := ⟨_, rfl⟩
  have z1 : W1.heap.size = s0 + 1 := by rw [hW1, size_alloc, hs0]
  obtain ⟨b, hb⟩ : ∃ b, b = s0 + 1 := ⟨_, rfl⟩
  have x1 : Ext w W1 := by rw [hW1]; exact Ext.alloc (Ext.refl _) _
  have x2 : Ext W1 W := by rw [hW]; exact Ext.alloc (Ext.refl _) _
  have m0 : W.heap[s0]? = some (.cells rc 28) := by rw [hrc]; exact heap_ext3 (by rw [hs0, hW1]; exact heap_new _ _) x2
  have m1 : W.heap[b]? = some (.cells #[.slice none 0 0, .int .i64 0] 78) := by rw [hb, ← z1, hW]; exact heap_new _ _
  rw [← hs0, ← hb, ← hW1, ← hW]
  have hE : Ext w W := x1.trans x2
  have k0 : W.cell? ⟨s0, 0, none⟩ = some (.int .i64 pl) := by rw [cell_of_heap m0 0, hrc]; rfl
  have k1 : W.cell? ⟨s0, 1, none⟩ = some (.slice p R.sides.length c) := by rw [cell_of_heap m0 1, hrc]; rfl
  have k2 : W.cell? ⟨s0, 2, none⟩ = some (.slice q n d) := by rw [cell_of_heap m0 2, hrc]; rfl
  have HCW := Lib.hid (HCK.out W hE)
  have HM0 := Lib.hid m0
  have HM1 := Lib.hid m1
  have HE := Lib.hid hE
  have HRC := Lib.hid hrc
  have HSB := Lib.hid (⟨by omega, hb⟩ : w.heap.size ≤ s0 ∧ b = s0 + 1)
  clear hW hW1 m0 m1 hs0 z1 x1 x2 hE hb hrc
  go_upto_region 6 with (go_at_call 42; refine HCW.out.mono ?_; rintro e W2 ⟨rfl, hE2⟩)
  have HE2 := Lib.hid hE2
  have hm2 := heap_ext3 HM0.out hE2
  have hb2 := heap_ext3 HM1.out hE2
  have l0 : W2.cell? ⟨s0, 0, none⟩ = some (.int .i64 pl) := by rw [cell_of_heap hm2 0, HRC.out]; rfl
  have l1 : W2.cell? ⟨s0, 1, none⟩ = some (.slice p R.sides.length c) := by rw [cell_of_heap hm2 1, HRC.out]; rfl
  have l2 : W2.cell? ⟨s0, 2, none⟩ = some (.slice q n d) := by rw [cell_of_heap hm2 2, HRC.out]; rfl
  have HM2 := Lib.hid hm2
  have HB2 := Lib.hid hb2
  obtain ⟨g, hg⟩ : ∃ g, g = W2.heap.size := ⟨_, rfl⟩
  obtain ⟨W3, hW3⟩ : ∃ W3, W3 = W2.alloc (.cells (Array.replicate n (.int .i64 0)) 3) := ⟨_, rfl⟩
  have hx3 : Ext W2 W3 := by rw [hW3]; exact (Ext.refl W2).alloc _
  have hb3 := heap_ext3 hb2 hx3
  have f0 : W3.cell? ⟨b, 0, none⟩ = some (.slice none 0 0) := cell_of_heap hb3 0
  have f1 : W3.frozen? ⟨b, 0, none⟩ = false := cell_frozen hb3 0
  have f2 : (W2.alloc (.cells (Array.replicate n (.int .i64 0)) 3)).cell? ⟨b, 0, none⟩ = some (.slice none 0 0) := by rw [← hW3]; exact f0
  have f3 : (W2.alloc (.cells (Array.replicate n (.int .i64 0)) 3)).frozen? ⟨b, 0, none⟩ = false := by rw [← hW3]; exact f1
  have hO3 : W3.ownsRow g 3 1 (.slice (some ⟨g, 0, none⟩) n n) n (intVs (List.replicate n 0)) := by
    rw [hW3, hg]
    exact own_made_i W2 _ _ (Nat.le_refl _) (by omega)
  have HO3 := Lib.hid hO3
  have HX3 := Lib.hid hx3
  have HB3 := Lib.hid hb3
  have hgl : b < g := by rw [hg]; exact (Array.getElem?_eq_some_iff.1 HB2.out).1
  clear hE2 hm2 hb2 hO3 hx3 hb3 k0 k1 k2 f0 f1
  go_upto_region 7 with (fail)
  rw [← hg, ← hW3]
  obtain ⟨W4, hW4⟩ : ∃ W4, W4 = W3.setCell ⟨b, 0, none⟩ (.slice (some ⟨g, 0, none⟩) n n) := ⟨_, rfl⟩
  rw [← hW4]
  have hS : WgS w W4 s0 b g n rc (List.replicate n 0) 0 := by
    obtain ⟨h1, h2⟩ := HSB.out
    rw [hW4]
    exact ⟨(HE.out.trans (HE2.out.trans HX3.out)).setCell (p := ⟨b, 0, none⟩) (by show w.heap.size ≤ b; omega) _, ⟨h1, by omega, hgl⟩, heap_set_ne (by omega) (heap_ext3 HM2.out HX3.out), heap_set HB3.out rfl, ownsRow_off HO3.out hgl⟩
  have HS := Lib.hid hS
  have l1 : W4.cell? ⟨s0, 1, none⟩ = some (.slice p R.sides.length c) := by rw [cell_of_heap hS.m0 1, HRC.out]; rfl
  clear hW3 hW4 hS f2 f3 hg l0 l2 hmk hgl
  go_wp2
  go_loopw [28] (fun i wr => ∃ k : Nat, k ≤ R.sides.length ∧ i = .int .i64 k ∧ WgS w wr s0 b g n rc ((R.sides.take k).foldl sideW (List.replicate n 0)) (((R.sides.take k).map fun s => 100 * s.plays).sum : Int)) (fun i _ => R.sides.length - (intOf i).toNat)
  case atStart => exact ⟨0, Nat.zero_le _, rfl, HS.out⟩
  case round =>
    obtain ⟨k, hk, rfl, hS⟩ := hrel
    have HS := Lib.hid hS
    have HW := Lib.hid (by have h := sides_ok HR.out k hk; rw [← HN.out] at h; exact h : WOK n (((R.sides.take k).map fun s => 100 * s.plays).sum) ((R.sides.take k).foldl sideW (List.replicate n 0)))
    have hab : 0 ≤ ((R.sides.take k).map fun s => 100 * s.plays).sum ∧ ((R.sides.take k).map fun s => 100 * s.plays).sum ≤ 999900 * (k : Int) := by
      rw [all_sum]; have := plays_bd HR.out k hk; omega
    obtain ⟨al, hal⟩ : ∃ al : Int, al = ((R.sides.take k).map fun s => 100 * s.plays).sum := ⟨_, rfl⟩
    rw [← hal] at HS HW hab
    have HAL := Lib.hid hal
    clear hS hal
    by_cases hlt : k < R.sides.length
    · have hlt' : (k : Int) < (R.sides.length : Int) := by omega
      obtain ⟨pb, po, qs, cs, rfl, hc0, hc1, hc2⟩ := HP.out k hlt
      have k0 := HS.out.ext.cell hc0
      have k1 := HS.out.ext.cell hc1
      have HM := Lib.hid (HPS.out R.sides[k] (List.getElem_mem _))
      have HSD := Lib.hid (by have h := HR.out.sd R.sides[k] (List.getElem_mem _); rw [← HN.out] at h; exact h : SideOK n R.sides[k])
      have HC2 := Lib.hid hc2
      have htk := take_snoc hlt
      obtain ⟨s, hs⟩ : ∃ s, s = R.sides[k] := ⟨_, rfl⟩
      rw [← hs] at k0 k1 HC2 HM HSD htk
      have hpl := HSD.out.pl
      obtain ⟨ps, hps⟩ : ∃ x, x = s.plays := ⟨_, rfl⟩
      rw [← hps] at k0 hpl
      have HPL := Lib.hid hps
      have HTK := Lib.hid htk
      clear hc0 hc1 hc2 hs hps htk
      go_upto_region 10 with (fail)
      obtain ⟨s2, hs2⟩ : ∃ s2, s2 = wr.heap.size := ⟨_, rfl⟩
      obtain ⟨W2, hW2⟩ : ∃ W2, W2 = wr.alloc (.cells #[.int .i64 ps, .slice qs s.parts.length cs] 72) := ⟨_, rfl⟩
      have m2 : W2.heap[s2]? = some (.cells #[.int .i64 ps, .slice qs s.parts.length cs] 72) := by rw [hs2, hW2]; exact heap_new _ _
      have hE2 : Ext wr W2 := by rw [hW2]; exact (Ext.refl _).alloc _
      rw [← hs2, ← hW2]
      have HS2 := Lib.hid (HS.out.ext' hE2)
      have c0 : W2.cell? ⟨s2, 0, none⟩ = some (.int .i64 ps) := cell_of_heap m2 0
      have b1 : W2.cell? ⟨b, 1, none⟩ = some (.int .i64 al) := cell_of_heap HS2.out.mb 1
      have b2 : W2.frozen? ⟨b, 1, none⟩ = false := cell_frozen HS2.out.mb 1
      have hgs : g < s2 := by rw [hs2]; exact HS.out.lt2
      have HM2 := Lib.hid m2
      have hw1 : IntKind.i64.wrap (100 * ps) = 100 * ps := IntWalk.i64_in _ (by omega)
      have hw2 : IntKind.i64.wrap (al + 100 * ps) = al + 100 * ps := IntWalk.i64_in _ (by omega)
      clear hs2 hW2 m2 hE2 k0 k1
      go_upto_region 11 with (fail)
      obtain ⟨W4, hW4⟩ : ∃ W4, W4 = W2.setCell ⟨b, 1, none⟩ (.int .i64 (al + 100 * ps)) := ⟨_, rfl⟩
      rw [← hW4]
      have hS4 := HS2.out.setAll (al + 100 * ps)
      have m4 : W4.heap[s2]? = some (.cells #[.int .i64 ps, .slice qs s.parts.length cs] 72) := by
        obtain ⟨l1, l2, l3⟩ := HS2.out.lt
        rw [hW4]; exact heap_set_ne (by omega) HM2.out
      rw [← hW4] at hS4
      have c1 : W4.cell? ⟨s2, 1, none⟩ = some (.slice qs s.parts.length cs) := cell_of_heap m4 1
      have HS4 := Lib.hid hS4
      have HM4 := Lib.hid m4
      obtain ⟨ofk, hofk⟩ : ∃ ofk, ofk = (R.sides.take k).foldl sideW (List.replicate n 0) := ⟨_, rfl⟩
      rw [← hofk] at HW HS4
      have HOF := Lib.hid hofk
      obtain ⟨al2, hal2⟩ : ∃ al2, al2 = al + 100 * ps := ⟨_, rfl⟩
      rw [← hal2] at HS4
      have HAL2 := Lib.hid hal2
      clear hW4 hS4 m4 hofk hal2 c0 b1 b2 hw1 hw2
      go_wp2
      go_loopw [42] (fun i wr2 => ∃ j : Nat, j ≤ s.parts.length ∧ i = .int .i64 j ∧ WgS w wr2 s0 b g n rc ((s.parts.take j).foldl (addW s.plays) ofk) al2 ∧ wr2.heap[s2]? = some (.cells #[.int .i64 ps, .slice qs s.parts.length cs] 72)) (fun i _ => s.parts.length - (intOf i).toNat)
      case atStart => exact ⟨0, Nat.zero_le _, rfl, HS4.out, HM4.out⟩
      case round =>
        obtain ⟨j, hj, rfl, hS, hm⟩ := hrel
        have HS := Lib.hid hS
        have HM2 := Lib.hid hm
        have HWJ := Lib.hid (parts_ok HW.out HSD.out j hj)
        clear hS hm
        by_cases hlj : j < s.parts.length
        · have hlj' : (j : Int) < (s.parts.length : Int) := by omega
          have hm1 := HM.out
          obtain ⟨qb, qo, rfl, hd0, hd1⟩ := HC2.out j hlj
          have k0 := HS.out.ext.cell hd0
          have k1 := HS.out.ext.cell hd1
          obtain ⟨h1, h2, -, h3, h4⟩ := HSD.out.pa j hlj
          rw [getP_at1 hlj] at h1 h2 h3 h4
          have htj := take_snoc hlj
          obtain ⟨pr, hpr⟩ : ∃ pr, pr = s.parts[j] := ⟨_, rfl⟩
          rw [← hpr] at k0 k1 h1 h2 h3 h4 htj
          obtain ⟨m, hm⟩ : ∃ m : Nat, (m : Int) = pr.1 := ⟨pr.1.toNat, by omega⟩
          obtain ⟨pt, hpt⟩ : ∃ pt, pt = pr.2 := ⟨_, rfl⟩
          rw [← hm] at k0 h1 h2
          rw [← hpt] at k1 h3 h4
          have HTJ := Lib.hid htj
          have HPR := Lib.hid (⟨by omega, hpt⟩ : pr.1.toNat = m ∧ pt = pr.2)
          obtain ⟨ofj, hofj⟩ : ∃ ofj, ofj = (s.parts.take j).foldl (addW s.plays) ofk := ⟨_, rfl⟩
          rw [← hofj] at HS HWJ
          have HOJ := Lib.hid hofj
          have hmn : m < n := by omega
          have hml : m < ofj.length := by rw [HWJ.out.len]; exact hmn
          obtain ⟨xo, hxo⟩ : ∃ xo, xo = ofj[m] := ⟨_, rfl⟩
          have hxb : 0 ≤ xo ∧ xo ≤ 12000000 := by
            have e1 := HWJ.out.pos xo (by rw [hxo]; exact List.getElem_mem _)
            have e2 := HWJ.out.le xo (by rw [hxo]; exact List.getElem_mem _)
            have e3 := pct_bd j hj (fun t ht => HSD.out.pa t (by omega))
            have e4 : pctS (s.parts.take j) ≤ 100 := pct_le100 HSD.out j hj
            have e6 : s.plays * pctS (s.parts.take j) ≤ 9999 * 100 := by
              have h5 := HSD.out.pl
              exact Int.mul_le_mul h5.2 e4 e3.1 (by omega)
            refine ⟨e1, ?_⟩
            omega
          have hpm : 0 ≤ ps * pt ∧ ps * pt ≤ 999900 := ⟨Int.mul_nonneg hpl.1 (by omega), Int.mul_le_mul hpl.2 h4 (by omega) (by omega)⟩
          have hw1 : IntKind.i64.wrap (ps * pt) = ps * pt := IntWalk.i64_in _ (by omega)
          have hw2 : IntKind.i64.wrap (xo + ps * pt) = xo + ps * pt := IntWalk.i64_in _ (by omega)
          have hmn' : (m : Int) < (n : Int) := by omega
          have HXO := Lib.hid hxo
          clear hd0 hd1 hm hpt htj hofj hxo hxb hpm h1 h2 h3 h4 hpr
          go_upto_region 14 with (fail)
          obtain ⟨s3, hs3⟩ : ∃ s3, s3 = wr.heap.size := ⟨_, rfl⟩
          obtain ⟨W3, hW3⟩ : ∃ W3, W3 = wr.alloc (.cells #[.int .i64 (m : Int), .int .i64 pt] 104) := ⟨_, rfl⟩
          have m3 : W3.heap[s3]? = some (.cells #[.int .i64 (m : Int), .int .i64 pt] 104) := by rw [hs3, hW3]; exact heap_new _ _
          have hE3 : Ext wr W3 := by rw [hW3]; exact (Ext.refl _).alloc _
          rw [← hs3, ← hW3]
          have HS3 := Lib.hid (HS.out.ext' hE3)
          have HM3 := Lib.hid (heap_ext3 HM2.out hE3)
          have HKC := Lib.hid (fun y (h : Ext W3 y) => (by
            have e1 := HS3.out.ext' h
            obtain ⟨c1, z1⟩ := ownsRow_cell e1.O hml
            rw [← HXO.out] at c1
            exact ⟨cell_of_heap e1.mb 0, cell_of_heap (heap_ext3 m3 h) 0, cell_of_heap (heap_ext3 m3 h) 1, cell_of_heap (heap_ext3 HM3.out h) 0, c1⟩ :
            y.cell? ⟨b, 0, none⟩ = some (.slice (some ⟨g, 0, none⟩) n n) ∧ y.cell? ⟨s3, 0, none⟩ = some (.int .i64 (m : Int)) ∧ y.cell? ⟨s3, 1, none⟩ = some (.int .i64 pt) ∧ y.cell? ⟨s2, 0, none⟩ = some (.int .i64 ps) ∧ y.cell? ⟨g, m, none⟩ = some (.int .i64 xo)))
          clear hs3 hW3 m3 hE3 k0 k1 c1
          refine wp_region_facts 12 [[], [0], [], [2], [1, 3], [4], [], [6], [], [8], [7, 9], [5, 10]] [1, 3, 11] Ext (FL [Is (.pointer (some ⟨b, 0, none⟩)), Is (.slice (some ⟨g, 0, none⟩) n n), Is (.pointer (some ⟨s3, 0, none⟩)), Is (.int .i64 (m : Int)), Is (.pointer (some ⟨g, m, none⟩)), Is (.int .i64 xo), Is (.pointer (some ⟨s2, 0, none⟩)), Is (.int .i64 ps), Is (.pointer (some ⟨s3, 1, none⟩)), Is (.int .i64 pt), Is (.int .i64 (ps * pt)), Is (.int .i64 (xo + ps * pt))]) (by kernel_rfl) (by kernel_rfl) Ext.refl (fun _ _ _ => Ext.trans) (fun _ _ => Ext.size) (FL.mono ⟨Is.mono, Is.mono, Is.mono, Is.mono, Is.mono, Is.mono, Is.mono, Is.mono, Is.mono, Is.mono, Is.mono, Is.mono, trivial⟩) ⟨?_, ?_, ?_, ?_, ?_, ?_, ?_, ?_, ?_, ?_, ?_, ?_, trivial⟩ ?_
          · refine opF_step ?_
            intro ys l0 h0 w' hr hf K hK
            clear hf
            simp only [fill, Act.put, dstO, List.take_succ_cons, List.take_zero, List.setIfInBounds_toArray, List.set_cons_zero, List.set_cons_succ, List.getElem?_cons_zero, Nat.zero_add, Nat.reduceAdd] at hK ⊢
            refine OpB.mk' ?_
            go_simp
            exact hK.out _ _ rfl (Ext.refl _)
          · refine opF_step ?_
            intro ys l0 h0 w' hr hf K hK
            obtain ⟨f0, -⟩ := hf
            have e0 : ys 0 = _ := f0
            obtain ⟨j0, j1, j2, j3, j4⟩ := HKC.out w' ((Ext.refl W3).drew.trans hr)
            simp only [fill, Act.put, dstO, List.take_succ_cons, List.take_zero, List.setIfInBounds_toArray, List.set_cons_zero, List.set_cons_succ, List.getElem?_cons_zero, List.getElem?_cons_succ, Nat.zero_add, Nat.reduceAdd] at hK ⊢
            simp only [e0] at hK ⊢
            clear e0 f0
            refine OpB.mk' ?_
            go_simp
            exact hK.out _ _ rfl (Ext.refl _)
          · refine opF_step ?_
            intro ys l0 h0 w' hr hf K hK
            clear hf
            simp only [fill, Act.put, dstO, List.take_succ_cons, List.take_zero, List.setIfInBounds_toArray, List.set_cons_zero, List.set_cons_succ, List.getElem?_cons_zero, List.getElem?_cons_succ, Nat.zero_add, Nat.reduceAdd] at hK ⊢
            refine OpB.mk' ?_
            go_simp
            exact hK.out _ _ rfl (Ext.refl _)
          · refine opF_step ?_
            intro ys l0 h0 w' hr hf K hK
            obtain ⟨f0, -⟩ := hf
            have e0 : ys 2 = _ := f0
            obtain ⟨j0, j1, j2, j3, j4⟩ := HKC.out w' ((Ext.refl W3).drew.trans hr)
            simp only [fill, Act.put, dstO, List.take_succ_cons, List.take_zero, List.setIfInBounds_toArray, List.set_cons_zero, List.set_cons_succ, List.getElem?_cons_zero, List.getElem?_cons_succ, Nat.zero_add, Nat.reduceAdd] at hK ⊢
            simp only [e0] at hK ⊢
            clear e0 f0
            refine OpB.mk' ?_
            go_simp
            exact hK.out _ _ rfl (Ext.refl _)
          · refine opF_step ?_
            intro ys l0 h0 w' hr hf K hK
            obtain ⟨f0, f1, -⟩ := hf
            have e0 : ys 1 = _ := f0
            have e1 : ys 3 = _ := f1
            simp only [fill, Act.put, dstO, List.take_succ_cons, List.take_zero, List.setIfInBounds_toArray, List.set_cons_zero, List.set_cons_succ, List.getElem?_cons_zero, List.getElem?_cons_succ, Nat.zero_add, Nat.reduceAdd] at hK ⊢
            simp only [e0, e1] at hK ⊢
            clear e0 e1 f0 f1
            refine OpB.mk' ?_
            go_simp
            exact hK.out _ _ rfl (Ext.refl _)
          · refine opF_step ?_
            intro ys l0 h0 w' hr hf K hK
            obtain ⟨f0, -⟩ := hf
            have e0 : ys 4 = _ := f0
            obtain ⟨j0, j1, j2, j3, j4⟩ := HKC.out w' ((Ext.refl W3).drew.trans hr)
            simp only [fill, Act.put, dstO, List.take_succ_cons, List.take_zero, List.setIfInBounds_toArray, List.set_cons_zero, List.set_cons_succ, List.getElem?_cons_zero, List.getElem?_cons_succ, Nat.zero_add, Nat.reduceAdd] at hK ⊢
            simp only [e0] at hK ⊢
            clear e0 f0
            refine OpB.mk' ?_
            go_simp
            exact hK.out _ _ rfl (Ext.refl _)
          · refine opF_step ?_
            intro ys l0 h0 w' hr hf K hK
            clear hf
            simp only [fill, Act.put, dstO, List.take_succ_cons, List.take_zero, List.setIfInBounds_toArray, List.set_cons_zero, List.set_cons_succ, List.getElem?_cons_zero, List.getElem?_cons_succ, Nat.zero_add, Nat.reduceAdd] at hK ⊢
            refine OpB.mk' ?_
            go_simp
            exact hK.out _ _ rfl (Ext.refl _)
          · refine opF_step ?_
            intro ys l0 h0 w' hr hf K hK
            obtain ⟨f0, -⟩ := hf
            have e0 : ys 6 = _ := f0
            obtain ⟨j0, j1, j2, j3, j4⟩ := HKC.out w' ((Ext.refl W3).drew.trans hr)
            simp only [fill, Act.put, dstO, List.take_succ_cons, List.take_zero, List.setIfInBounds_toArray, List.set_cons_zero, List.set_cons_succ, List.getElem?_cons_zero, List.getElem?_cons_succ, Nat.zero_add, Nat.reduceAdd] at hK ⊢
            simp only [e0] at hK ⊢
            clear e0 f0
            refine OpB.mk' ?_
            go_simp
            exact hK.out _ _ rfl (Ext.refl _)
          · refine opF_step ?_
            intro ys l0 h0 w' hr hf K hK
            clear hf
            simp only [fill, Act.put, dstO, List.take_succ_cons, List.take_zero, List.setIfInBounds_toArray, List.set_cons_zero, List.set_cons_succ, List.getElem?_cons_zero, List.getElem?_cons_succ, Nat.zero_add, Nat.reduceAdd] at hK ⊢
            refine OpB.mk' ?_
            go_simp
            exact hK.out _ _ rfl (Ext.refl _)
          · refine opF_step ?_
            intro ys l0 h0 w' hr hf K hK
            obtain ⟨f0, -⟩ := hf
            have e0 : ys 8 = _ := f0
            obtain ⟨j0, j1, j2, j3, j4⟩ := HKC.out w' ((Ext.refl W3).drew.trans hr)
            simp only [fill, Act.put, dstO, List.take_succ_cons, List.take_zero, List.setIfInBounds_toArray, List.set_cons_zero, List.set_cons_succ, List.getElem?_cons_zero, List.getElem?_cons_succ, Nat.zero_add, Nat.reduceAdd] at hK ⊢
            simp only [e0] at hK ⊢
            clear e0 f0
            refine OpB.mk' ?_
            go_simp
            exact hK.out _ _ rfl (Ext.refl _)
          · refine opF_step ?_
            intro ys l0 h0 w' hr hf K hK
            obtain ⟨f0, f1, -⟩ := hf
            have e0 : ys 7 = _ := f0
            have e1 : ys 9 = _ := f1
            simp only [fill, Act.put, dstO, List.take_succ_cons, List.take_zero, List.setIfInBounds_toArray, List.set_cons_zero, List.set_cons_succ, List.getElem?_cons_zero, List.getElem?_cons_succ, Nat.zero_add, Nat.reduceAdd] at hK ⊢
            simp only [e0, e1] at hK ⊢
            clear e0 e1 f0 f1
            refine OpB.mk' ?_
            go_simp
            exact hK.out _ _ rfl (Ext.refl _)
          · refine opF_step ?_
            intro ys l0 h0 w' hr hf K hK
            obtain ⟨f0, f1, -⟩ := hf
            have e0 : ys 5 = _ := f0
            have e1 : ys 10 = _ := f1
            simp only [fill, Act.put, dstO, List.take_succ_cons, List.take_zero, List.setIfInBounds_toArray, List.set_cons_zero, List.set_cons_succ, List.getElem?_cons_zero, List.getElem?_cons_succ, Nat.zero_add, Nat.reduceAdd] at hK ⊢
            simp only [e0, e1] at hK ⊢
            clear e0 e1 f0 f1
            refine OpB.mk' ?_
            go_simp
            exact hK.out _ _ rfl (Ext.refl _)
          intro ys l0 h0 w2 hr hf hsp
          obtain ⟨f1, f3, f11, -⟩ := hf
          have e1 : ys 1 = _ := f1
          have e3 : ys 3 = _ := f3
          have e11 : ys 11 = _ := f11
          simp only [fill, Act.put, List.take_succ_cons, List.take_zero, List.setIfInBounds_toArray, List.set_cons_zero, List.set_cons_succ, Nat.zero_add, Nat.reduceAdd, List.drop_succ_cons, List.drop_zero]
          rw [e1, e3, e11]
          clear e1 f1 e3 f3 e11 f11
          clear hsp
          have hE3 : Ext W3 w2 := (Ext.refl W3).drew.trans hr
          have HS5 := Lib.hid (HS3.out.ext' hE3)
          have HM5 := Lib.hid (heap_ext3 HM3.out hE3)
          obtain ⟨d1, d2⟩ := ownsRow_cell HS5.out.O hml
          have HKC := Lib.hid hE3
          clear hr hE3
          go_wp2
          refine ⟨⟨j + 1, by omega, by simp, ?_, ?_⟩, by simp [intOf]; omega⟩
          · have h := HS5.out.setOf m (xo + ps * pt)
            rw [HTJ.out, List.foldl_append, ← HOJ.out]
            have e : addW s.plays ofj pr = ofj.set m (xo + ps * pt) := by
              unfold addW
              rw [HPR.out.1, ← HPR.out.2, ← HPL.out, HXO.out, List.getD_eq_getElem?_getD, List.getElem?_eq_getElem hml]
              rfl
            simp only [List.foldl_cons, List.foldl_nil]
            rw [e]
            exact h
          · obtain ⟨l1, l2, l3⟩ := HS5.out.lt
            exact heap_set_ne (by omega) HM5.out
        · obtain rfl : j = s.parts.length := by omega
          have hge : ¬((s.parts.length : Int) < (s.parts.length : Int)) := by omega
          rw [List.take_length] at HS
          go_wp2
          refine ⟨⟨k + 1, by omega, by simp, ?_⟩, by simp [intOf]; omega⟩
          rw [HTK.out, List.foldl_append, List.map_append, List.sum_append, ← HOF.out, ← HAL.out]
          simp only [List.foldl_cons, List.foldl_nil, List.map_cons, List.map_nil, List.sum_cons, List.sum_nil]
          rw [← HPL.out, Int.add_zero, ← HAL2.out]
          exact HS.out
    · obtain rfl : k = R.sides.length := by omega
      have hge : ¬((R.sides.length : Int) < (R.sides.length : Int)) := by omega
      rw [List.take_length] at HS HAL
      have hal0 : al ≠ 0 := by
        have h1 := HAL.out
        have h2 := H0.out
        rw [all_sum] at h1
        unfold playsR at h2
        omega
      have hne : (al == 0) = false := by rw [beq_eq_false_iff_ne]; exact hal0
      have HFA := Lib.hid (show allW R = al from by rw [HAL.out, all_sum]; rfl)
      have c0 : wr.cell? ⟨b, 0, none⟩ = some (.slice (some ⟨g, 0, none⟩) n n) := cell_of_heap HS.out.mb 0
      have c1 : wr.cell? ⟨b, 1, none⟩ = some (.int .i64 al) := cell_of_heap HS.out.mb 1
      have f0 : wr.frozen? ⟨b, 0, none⟩ = false := cell_frozen HS.out.mb 0
      have f1 : wr.frozen? ⟨b, 1, none⟩ = false := cell_frozen HS.out.mb 1
      clear hal0
      go_wp2
      rw [HFA.out]
      obtain ⟨l1, l2, l3⟩ := HS.out.lt
      have hof : ofW R = R.sides.foldl sideW (List.replicate n 0) := by unfold ofW; rw [← HN.out]
      have hlen : (ofW R).length = n := by rw [(of_ok HR.out).len]; exact HN.out.symm
      refine weighEnd (b := b) (g := g) (heap_set (heap_set HS.out.mb rfl) rfl) ?_ ?_ rfl rfl rfl
      · exact (HS.out.ext.setCell (p := ⟨b, 0, none⟩) (by show w.heap.size ≤ b; omega) _).setCell (p := ⟨b, 1, none⟩) (by show w.heap.size ≤ b; omega) _
      · have h := ownsRow_off (o := 1) (u := .int .i64 al) (ownsRow_off (o := 0) (u := .slice (some ⟨g, 0, none⟩) n n) HS.out.O l3) l3
        rw [← hof] at h
        refine row_ints (B := g) (c := n) ?_
        rw [hlen]
        exact h
end Go.Proofs.Ytppncdbhebgcaaa
