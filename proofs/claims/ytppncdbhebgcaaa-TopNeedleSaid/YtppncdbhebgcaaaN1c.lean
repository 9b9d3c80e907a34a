
/- The walk of TopNeedle. -/
import Derived.Test.YtppncdbhebgcaaaN1b
namespace Go.Proofs.Ytppncdbhebgcaaa
open Go.RowKit

theorem psB {L : List Int} (hb : ∀ x ∈ L, 0 ≤ x ∧ x ≤ 12) : ∀ i, i ≤ L.length → 0 ≤ We.smL L i ∧ We.smL L i ≤ i * 12 := by
  intro i
  induction i with
  | zero => intro _; exact ⟨Int.le_refl _, Int.le_refl _⟩
  | succ i ih =>
    intro h
    rw [We.smL_succ (by omega)]
    have h1 := ih (by omega)
    have h2 := hb _ (List.getElem_mem (by omega : i < L.length))
    omega
/-- what Run answers for the week of TopNeedle -/
def RunNd (L : List Int) (a ro : Int) (w : World) (e : Ending) (w' : World) : Prop :=
  Ext w w' ∧ ∃ p c z, e = .returned (.tuple #[.slice p L.length c, .int .i64 a, .int .i64 z, .int .i64 0]) ∧ IntsAt w' p ((List.range L.length).map fun i : Nat => (i : Int) + L.getD i 0 * ro)
theorem run_nd {L : List Int} {nw ag ro : Int} {w w' : World} {e : Ending} (hv : We.ValidW (We.ndW ag ro L)) (h01 : nw = 0 ∨ nw = 1) (hb : ∀ x ∈ L, 0 ≤ x) (h : We.RunPost (We.ndW ag ro L) (We.ndP nw) w e w') : RunNd L (We.smL L L.length + (1 - nw) * ag) ro w e w' := by
  obtain ⟨hE, h⟩ := h
  have hr := We.nd_run (age := ag) (rough := ro) nw h01 hb
  rcases h with ⟨-, -, v, rfl, p, c, rfl, hI⟩ | ⟨-, hn, -⟩ | ⟨hn, -⟩
  · have hl : (We.ndW ag ro L).recs.length = L.length := We.ndRecs_len L
    have h1 : (We.ndP nw).length = 1 := rfl
    rw [hl, h1, hr.2] at hI ⊢
    rw [hr.1]
    exact ⟨hE, p, c, (We.runTo (We.ndW ag ro L) (We.ndP nw) 1).cost, by simp, hI⟩
  · exact absurd (We.nd_plan nw h01) hn
  · exact absurd hv hn
def NdB (B k : Nat) (x : Int) (v : Value) (_ _ : Nat) (w : World) : Prop := ∃ g, v = .agg #[.int .i64 (k : Int), .int .i64 99999, .int .i64 0, .slice (some ⟨g, 0, none⟩) 1 1] ∧ B ≤ g ∧ w.heap[g]? = some (.cells #[.int .i64 x] 3)
def NdC (B k : Nat) (x : Int) (v : Value) (_ _ : Nat) (w : World) : Prop := ∃ g h, v = .slice (some ⟨h, 0, none⟩) 1 1 ∧ B ≤ g ∧ B ≤ h ∧ w.heap[g]? = some (.cells #[.int .i64 x] 3) ∧ w.heap[h]? = some (.cells #[.int .i64 (k : Int), .int .i64 99999, .int .i64 0, .slice (some ⟨g, 0, none⟩) 1 1] 59)
/-- the records' row, grown by one -/
def NdD (B b1 k : Nat) (vs : List Value) (x : Int) (v : Value) (_ _ : Nat) (w : World) : Prop := ∃ g h cap, v = .slice (some ⟨h, 0, none⟩) (k + 1) cap ∧ B ≤ g ∧ w.heap[g]? = some (.cells #[.int .i64 x] 3) ∧
  w.ownsRow b1 59 4 v (k + 1) (vs ++ [.int .i64 (k : Int), .int .i64 99999, .int .i64 0, .slice (some ⟨g, 0, none⟩) 1 1])
theorem NdB.mono {B k : Nat} {x : Int} : ∀ v s t w w', Ext w w' → NdB B k x v s t w → NdB B k x v s t w' := fun _ _ _ _ _ hE ⟨g, h1, h2, h3⟩ => ⟨g, h1, h2, heap_ext3 h3 hE⟩
theorem NdC.mono {B k : Nat} {x : Int} : ∀ v s t w w', Ext w w' → NdC B k x v s t w → NdC B k x v s t w' := fun _ _ _ _ _ hE ⟨g, h, h1, h2, h3, h4, h5⟩ => ⟨g, h, h1, h2, h3, heap_ext3 h4 hE, heap_ext3 h5 hE⟩
theorem NdD.mono {B b1 k : Nat} {vs : List Value} {x : Int} : ∀ v s t w w', Ext w w' → NdD B b1 k vs x v s t w → NdD B b1 k vs x v s t w' := fun _ _ _ _ _ hE ⟨g, h, c, h1, h2, h3, h4⟩ => ⟨g, h, c, h1, h2, heap_ext3 h3 hE, ownsRow_ext h4 hE⟩
section
variable {r : Option Nat} {B k : Nat} {x : Int} {v : Value} {s t : Nat} {w w' : World} (hr : ∀ y, r = some y → y < B)
include hr
theorem NdB.gr (h : NdB B k x v s t w) (hG : GrB r w w') : NdB B k x v s t w' := by
  obtain ⟨g, h1, h2, h3⟩ := h
  exact ⟨g, h1, h2, hG.keep h3 fun e => by have := hr g e.symm; omega⟩
theorem NdC.gr (h : NdC B k x v s t w) (hG : GrB r w w') : NdC B k x v s t w' := by
  obtain ⟨g, h', h1, h2, h3, h4, h5⟩ := h
  exact ⟨g, h', h1, h2, h3, hG.keep h4 fun e => by have := hr g e.symm; omega, hG.keep h5 fun e => by have := hr h' e.symm; omega⟩
end
theorem info_wr : (Try.prog.info? 59).map (fun i => (i.zero, i.size, i.bytes)) = some (some (.agg #[.int .i64 0, .int .i64 0, .int .i64 0, .slice none 0 0]), 4, 48) := by kernel_rfl
set_option maxRecDepth 20000 in
set_option maxHeartbeats 16000000 in
theorem TopNeedle03 (v : Value) (T : TrayD) (ag nw ro : Int) (w : World) (hv : TyV w v T) :
    Calls Try.prog 4 #[v, .agg #[.int .i64 ag, .int .i64 nw, .int .i64 ro]] w (RetE (.bool true) w) := by
  have HTV := Lib.hid (fun y (h : Ext w y) => hv.ext h)
  obtain ⟨p, c, q, d, rfl, hp, hq⟩ := hv
  obtain ⟨n, hn⟩ : ∃ n, n = T.recs.length := ⟨_, rfl⟩
  have HN := Lib.hid hn
  rw [← hn] at HTV ⊢
  clear hp hq hn
  go_enter Try.func4, Try.ntmps4
  go_upto_region 1 with (fail)
  obtain ⟨s0, hs0⟩ : ∃ s0, s0 = w.heap.size := ⟨_, rfl⟩
  obtain ⟨W, hW⟩ : ∃ W, W = (w.alloc (.cells #[.slice p n c, .int .i64 T.at_, .int .i64 T.way, .int .i64 T.step, .slice q T.prs.length d] 48)).alloc (.cells #[.int .i64 ag, .int .i64 nw, .int .i64 ro] 50) := ⟨_, rfl⟩
  have m0 : W.heap[s0]? = some (.cells #[.slice p n c, .int .i64 T.at_, .int .i64 T.way, .int .i64 T.step, .slice q T.prs.length d] 48) := by rw [hs0, hW]; exact heap_ext3 (heap_new _ _) ((Ext.refl _).alloc _)
  have m1 : W.heap[s0 + 1]? = some (.cells #[.int .i64 ag, .int .i64 nw, .int .i64 ro] 50) := by rw [hs0, hW]; exact heap_new2 _ _ _
  have hE : Ext w W := by rw [hW]; exact Ext.alloc (Ext.alloc (Ext.refl _) _) _
  rw [← hs0, ← hW]
  obtain ⟨s1, hs1⟩ : ∃ s1, s1 = s0 + 1 := ⟨_, rfl⟩
  rw [← hs1] at m1 ⊢
  have a0 := ExtW.cell (v := .slice p n c) (cell_of_heap m0 0)
  have a1 := ExtW.cell (v := .int .i64 T.at_) (cell_of_heap m0 1)
  have a2 := ExtW.cell (v := .int .i64 T.way) (cell_of_heap m0 2)
  have a3 := ExtW.cell (v := .int .i64 T.step) (cell_of_heap m0 3)
  have a4 := ExtW.cell (v := .slice q T.prs.length d) (cell_of_heap m0 4)
  have b0 := ExtW.cell (v := .int .i64 ag) (cell_of_heap m1 0)
  have b1 := ExtW.cell (v := .int .i64 nw) (cell_of_heap m1 1)
  have b2 := ExtW.cell (v := .int .i64 ro) (cell_of_heap m1 2)
  have HE := Lib.hid hE
  have HM1 := Lib.hid m1
  have HVW := Lib.hid (fun y (h : Ext W y) => HTV.out y (hE.trans h))
  have HCD := Lib.hid (fun x : ExtW W => ExtW.callX (x := x) (dayPlayed03 x.w))
  obtain ⟨fr, hfr⟩ : ∃ fr, fr = (decide (40 < T.recs.length) || decide (40 < T.prs.length)) := ⟨_, rfl⟩
  have HFA := Lib.hid (fun x : ExtW W => ExtW.callX (v := .bool fr) (x := x) (by
    have h := far02 T _ x.w (HVW.out _ x.h)
    rw [← hfr] at h
    exact h))
  obtain ⟨y0, hy0⟩ := ExtW.of (Ext.refl W)
  clear hW m0 m1 hE hs0 hs1
  conv => arg 5; rw [hy0]
  clear hy0
  cases fr
  case true =>
    clear hfr
    go_wp2_with (first | (go_at_call 17; refine (HCD.out _).mono ?_; rintro e w2 ⟨rfl, xc, rfl, -⟩) | (go_at_call 15; refine (HFA.out _).mono ?_; rintro e w2 ⟨rfl, xf, rfl, -⟩) | (go_at_call 16; refine (HCK.out _).mono ?_; rintro e w2 ⟨rfl, xk, rfl, -⟩))
    go_ret
    exact RetE.fin (HE.out.trans xc.h) rfl
  obtain ⟨hl1, hl2⟩ : T.recs.length ≤ 40 ∧ T.prs.length ≤ 40 := by simpa using hfr.symm
  clear hfr
  obtain ⟨ck, hck⟩ : ∃ ck, ck = chkY T := ⟨_, rfl⟩
  have HCK := Lib.hid (fun x : ExtW W => ExtW.callX (v := .int .i64 ck) (x := x) (by
    have h := rCheck02 T _ x.w (HVW.out _ x.h) (by omega) (by omega)
    rw [← hck] at h
    exact h))
  have hk2 : ck = 0 ∧ okY T = true ∨ ck = 20 := by
    unfold chkY at hck
    split at hck
    · rename_i h; exact Or.inl ⟨hck, h⟩
    · exact Or.inr hck
  clear hck hl1 hl2
  rcases hk2 with ⟨rfl, hok⟩ | rfl
  case inr =>
    go_wp2_with (first | (go_at_call 17; refine (HCD.out _).mono ?_; rintro e w2 ⟨rfl, xc, rfl, -⟩) | (go_at_call 15; refine (HFA.out _).mono ?_; rintro e w2 ⟨rfl, xf, rfl, -⟩) | (go_at_call 16; refine (HCK.out _).mono ?_; rintro e w2 ⟨rfl, xk, rfl, -⟩))
    go_ret
    exact RetE.fin (HE.out.trans xc.h) rfl
  have hY := okY_is hok
  have HY := Lib.hid hY
  clear hok hY
  by_cases hn4 : (4 : Int) < (n : Int)
  case pos =>
    go_wp2_with (first | (go_at_call 17; refine (HCD.out _).mono ?_; rintro e w2 ⟨rfl, xc, rfl, -⟩) | (go_at_call 15; refine (HFA.out _).mono ?_; rintro e w2 ⟨rfl, xf, rfl, -⟩) | (go_at_call 16; refine (HCK.out _).mono ?_; rintro e w2 ⟨rfl, xk, rfl, -⟩))
    go_ret
    exact RetE.fin (HE.out.trans xc.h) rfl
  by_cases hw0 : nw < 0
  case pos =>
    go_wp2_with (first | (go_at_call 17; refine (HCD.out _).mono ?_; rintro e w2 ⟨rfl, xc, rfl, -⟩) | (go_at_call 15; refine (HFA.out _).mono ?_; rintro e w2 ⟨rfl, xf, rfl, -⟩) | (go_at_call 16; refine (HCK.out _).mono ?_; rintro e w2 ⟨rfl, xk, rfl, -⟩))
    go_ret
    exact RetE.fin (HE.out.trans xc.h) rfl
  by_cases hw1 : 1 < nw
  case pos =>
    go_wp2_with (first | (go_at_call 17; refine (HCD.out _).mono ?_; rintro e w2 ⟨rfl, xc, rfl, -⟩) | (go_at_call 15; refine (HFA.out _).mono ?_; rintro e w2 ⟨rfl, xf, rfl, -⟩) | (go_at_call 16; refine (HCK.out _).mono ?_; rintro e w2 ⟨rfl, xk, rfl, -⟩))
    go_ret
    exact RetE.fin (HE.out.trans xc.h) rfl
  have hn4' : n ≤ 4 := by omega
  go_upto_region 4 with (first
    | (go_at_call 15; refine (HFA.out _).mono ?_; rintro e w2 ⟨rfl, xf, rfl, -⟩)
    | (go_at_call 16; refine (HCK.out _).mono ?_; rintro e w2 ⟨rfl, xk, rfl, -⟩)
    | (go_at_call 18; refine (often02 HY.out (HVW.out _ xk.h)).mono ?_; rintro e W3 ⟨qs, g, hq1, hq2, rfl, hE3, hO3⟩))
  rw [← HN.out] at hO3 ⊢
  obtain ⟨L, hL⟩ : ∃ L, L = cntY n (playsC T qs) := ⟨_, rfl⟩
  have hpl := (plays_le HY.out hq1).1
  have hnp := HY.out.np
  have hLn : L.length = n := by rw [hL]; exact cntY_len _ _
  have hLb : ∀ x ∈ L, 0 ≤ x ∧ x ≤ 12 := fun x hx => by
    subst hL
    obtain ⟨i, hi, rfl⟩ := List.getElem_of_mem hx
    have := cntY_le hi
    omega
  rw [← hL] at hO3
  have HL : EqS L.length n := ⟨hLn⟩
  have HLB := Lib.hid hLb
  have HO3 := Lib.hid hO3
  have HE3 := Lib.hid (xk.h.trans hE3)
  have hg3 : g < W3.heap.size := (hO3.lt g rfl).2
  have d0 := (xk.h.trans hE3).cell (v := .int .i64 ag) (cell_of_heap HM1.out 0)
  have d2 := (xk.h.trans hE3).cell (v := .int .i64 ro) (cell_of_heap HM1.out 2)
  clear hL hpl hnp hLn hLb hO3 hE3 hq1 hq2 HFA HCK HVW
  go_upto_region 8 with (fail)
  obtain ⟨g1, hg1⟩ : ∃ g1, g1 = W3.heap.size := ⟨_, rfl⟩
  obtain ⟨W5, hW5⟩ : ∃ W5, W5 = W3.alloc (.cells #[.int .i64 ro] 3) := ⟨_, rfl⟩
  have m5 : W5.heap[g1]? = some (.cells #[.int .i64 ro] 3) := by rw [hW5, hg1]; exact heap_new _ _
  have hE5 : Ext W3 W5 := by rw [hW5]; exact Ext.alloc (Ext.refl _) _
  rw [← hg1, ← hW5]
  obtain ⟨b, hb⟩ : ∃ b, b = W5.heap.size := ⟨_, rfl⟩
  obtain ⟨W4, hW4⟩ : ∃ W4, W4 = W5.alloc (.cells #[.int .i64 1, .int .i64 0, .int .i64 ag, .int .i64 10, .slice (some ⟨g1, 0, none⟩) 1 1, .slice none 0 0] 57) := ⟨_, rfl⟩
  have m4 : W4.heap[b]? = some (.cells #[.int .i64 1, .int .i64 0, .int .i64 ag, .int .i64 10, .slice (some ⟨g1, 0, none⟩) 1 1, .slice none 0 0] 57) := by rw [hW4, hb]; exact heap_new _ _
  have hE4 : Ext W5 W4 := by rw [hW4]; exact Ext.alloc (Ext.refl _) _
  have e5 : g1 + 1 = b := by rw [hb, hW5, size_alloc, hg1]
  try rw [e5]
  try rw [← hb]
  rw [← hW4]
  have hgb : g < b := by omega
  have HB := Lib.hid hb
  have HM4 := Lib.hid m4
  have HM5 := Lib.hid m5
  have HE4 := Lib.hid hE4
  have HE5 := Lib.hid hE5
  have HE53 := Lib.hid (HE3.out.trans hE5)
  clear hW4 hW5 m4 m5 hE4 hE5 hb e5 hg1 hg3 d0 d2
  obtain ⟨i0, hi, hz0, hz1, hz2⟩ := info_parts info_wr
  have HI0 := Lib.hid (⟨hi, hz0, hz1, hz2⟩ : _ ∧ _ ∧ _ ∧ _)
  clear hi hz0 hz1 hz2
  go_wp2
  go_loopw [8, 9] (fun a i wr => ∃ k : Nat, k ≤ n ∧ a = .int .i64 (We.smL L k) ∧ i = .int .i64 k ∧ ∃ vR vs, Ext W5 wr ∧ wr.heap[b]? = some (.cells #[.int .i64 1, .int .i64 0, .int .i64 ag, .int .i64 10, .slice (some ⟨g1, 0, none⟩) 1 1, vR] 57) ∧ NdR wr (b + 1) vR vs (L.take k)) (fun _ i _ => n - (intOf i).toNat)
  case atStart => exact ⟨0, Nat.zero_le _, rfl, rfl, _, [], HE4.out, HM4.out, NdR.nil _ _⟩
  case round =>
    obtain ⟨k, hk, rfl, rfl, vR, vs, hE, hm, hR⟩ := hrel
    by_cases hlt : k < n
    · have hlt' : (k : Int) < (n : Int) := by omega
      have hkl : k < L.length := by have := HL.out; omega
      obtain ⟨x, hx⟩ : ∃ x, x = L[k] := ⟨_, rfl⟩
      have htk : L.take (k + 1) = L.take k ++ [x] := by rw [hx]; exact (List.take_append_getElem hkl).symm
      have hlen : (L.take k).length = k := by rw [List.length_take]; omega
      have hrb : ∀ y, vR.ownBlock = some y → b + 1 ≤ y ∧ y < wr.heap.size := fun y hy => hR.out.lt y hy
      have hbs := HB.out
      have hsm := psB HLB.out k (by omega)
      have hss : We.smL L (k + 1) = We.smL L k + x := by rw [We.smL_succ hkl, hx]
      have hxb : 0 ≤ x ∧ x ≤ 12 := by rw [hx]; exact HLB.out _ (List.getElem_mem hkl)
      obtain ⟨sm, hsmE⟩ : ∃ sm, sm = We.smL L k := ⟨_, rfl⟩
      rw [← hsmE] at hsm hss ⊢
      have HSS := Lib.hid hss
      have hwr : IntKind.i64.wrap (sm + x) = sm + x := IntWalk.i64_in _ (by omega)
      have hE35 : Ext W3 W5 := HE5.out
      have hcg : ∀ y, Ext W5 y → y.cell? ⟨g, k, none⟩ = some (.int .i64 x) := fun y hy => by
        obtain ⟨b', cc, he, hc⟩ := ownsRow_at HO3.out k hlt
        cases he
        refine (hE35.trans hy).cell (hc.trans ?_)
        rw [intVs_get hkl, hx]
      have hlow : ∀ y, GrB vR.ownBlock wr y → Ext W5 y := fun y h => Below.grown hE h hE.size (fun z hz => by have := hrb z hz; omega)
      have HKC := Lib.hid (fun y (h : GrB vR.ownBlock wr y) => (by
        have h2 := h.keep hm (own_not' hR.out hm (by decide))
        exact ⟨cell_of_heap h2 5, hcg y (hlow y h)⟩ :
        y.cell? ⟨b, 5, none⟩ = some vR ∧ y.cell? ⟨g, k, none⟩ = some (.int .i64 x)))
      have HKM := Lib.hid (fun y (h : GrB vR.ownBlock wr y) => (⟨h.keep hm (own_not' hR.out hm (by decide)), hlow y h⟩ : y.heap[b]? = some (.cells #[.int .i64 1, .int .i64 0, .int .i64 ag, .int .i64 10, .slice (some ⟨g1, 0, none⟩) 1 1, vR] 57) ∧ Ext W5 y))
      have HRB := Lib.hid (fun y hy => (hrb y hy).2)
      have HHR := Lib.hid (by have := hR.out; rw [hlen] at this; exact this)
      have HHT := Lib.hid hR
      have HTK := Lib.hid htk
      have HLE := Lib.hid hlen
      have hbw : b < wr.heap.size := (Array.getElem?_eq_some_iff.1 hm).1
      have hk6 : k ≤ 4 := by omega
      have q1 := hcg wr hE
      clear hE hm hR hx htk hlen hrb hcg hkl hbs hlow hsmE hss hE35
      go_upto_region 12 with (fail)
      clear q1 hwr
      refine wp_region_facts2 12 [[], [0], [], [], [], [3, 4], [5], [6], [2, 7], [8], [1, 9], []] [10, 11] 10 [] Ext ((GrB vR.ownBlock)) (FL [Is (.pointer (some ⟨b, 5, none⟩)), Is (vR), Is (.int .i64 k), Is (.slice (some ⟨g, 0, none⟩) n n), Is (.int .i64 k), Is (.pointer (some ⟨g, k, none⟩)), Is (.int .i64 x), OneN wr.heap.size [.int .i64 x] 3, NdB wr.heap.size k x, NdC wr.heap.size k x, NdD wr.heap.size (b + 1) k vs x, Is (.pointer (some ⟨b, 5, none⟩))]) (by kernel_rfl) (by kernel_rfl) (by kernel_rfl) (fun _ _ => GrB.ext) (fun _ _ _ => Ext.trans) Ext.refl (GrB.refl _) (fun _ _ _ => GrB.trans) (fun _ _ h => h.size) ?_ ?_ ⟨?_, ?_, ?_, ?_, ?_, ?_, ?_, ?_, ?_, ?_, ?_, ?_, trivial⟩ ?_
      · exact FL.mono ⟨Is.mono, Is.mono, Is.mono, Is.mono, Is.mono, Is.mono, Is.mono, OneN.mono, NdB.mono, NdC.mono, NdD.mono, Is.mono, trivial⟩
      · intro j v s t w w' hj hr
        match j, hj with
        | 0, _ => exact fun h => h
        | 1, _ => exact fun h => h
        | 2, _ => exact fun h => h
        | 3, _ => exact fun h => h
        | 4, _ => exact fun h => h
        | 5, _ => exact fun h => h
        | 6, _ => exact fun h => h
        | 7, _ => exact fun h => OneN.grow (s := s) (u := t) HRB.out hr h
        | 8, _ => exact fun h => NdB.gr (s := s) (t := t) HRB.out h hr
        | 9, _ => exact fun h => NdC.gr (s := s) (t := t) HRB.out h hr
        | 10, hj => exact absurd rfl hj
        | 11, _ => exact fun h => h
        | n + 12, _ => exact fun h => h
      · refine opF2_step ?_
        intro ys l0 h0 w' hr hs hf K hK
        clear hf
        clear hs
        simp only [fill, Act.put, dstO, List.take_succ_cons, List.take_zero, List.setIfInBounds_toArray, List.set_cons_zero, List.set_cons_succ, List.getElem?_cons_zero, Nat.zero_add, Nat.reduceAdd] at hK ⊢
        refine OpB.mk' ?_
        go_simp
        exact hK.out _ _ rfl (fun h => by cases h) (fun _ => Ext.refl _)
      · refine opF2_step ?_
        intro ys l0 h0 w' hr hs hf K hK
        obtain ⟨f0, -⟩ := hf
        have e0 : ys 0 = _ := f0
        obtain ⟨j0, j1⟩ := HKC.out w' ((GrB.ext ((Ext.refl wr).drew)).trans hr)
        clear hs
        simp only [fill, Act.put, dstO, List.take_succ_cons, List.take_zero, List.setIfInBounds_toArray, List.set_cons_zero, List.set_cons_succ, List.getElem?_cons_zero, List.getElem?_cons_succ, Nat.zero_add, Nat.reduceAdd] at hK ⊢
        simp only [e0] at hK ⊢
        clear e0 f0
        refine OpB.mk' ?_
        go_simp
        exact hK.out _ _ rfl (fun h => by cases h) (fun _ => Ext.refl _)
      · refine opF2_step ?_
        intro ys l0 h0 w' hr hs hf K hK
        clear hf
        clear hs
        simp only [fill, Act.put, dstO, List.take_succ_cons, List.take_zero, List.setIfInBounds_toArray, List.set_cons_zero, List.set_cons_succ, List.getElem?_cons_zero, List.getElem?_cons_succ, Nat.zero_add, Nat.reduceAdd] at hK ⊢
        refine OpB.mk' ?_
        go_simp
        exact hK.out _ _ rfl (fun h => by cases h) (fun _ => Ext.refl _)
      · refine opF2_step ?_
        intro ys l0 h0 w' hr hs hf K hK
        clear hf
        clear hs
        simp only [fill, Act.put, dstO, List.take_succ_cons, List.take_zero, List.setIfInBounds_toArray, List.set_cons_zero, List.set_cons_succ, List.getElem?_cons_zero, List.getElem?_cons_succ, Nat.zero_add, Nat.reduceAdd] at hK ⊢
        refine OpB.mk' ?_
        go_simp
        exact hK.out _ _ rfl (fun h => by cases h) (fun _ => Ext.refl _)
      · refine opF2_step ?_
        intro ys l0 h0 w' hr hs hf K hK
        clear hf
        clear hs
        simp only [fill, Act.put, dstO, List.take_succ_cons, List.take_zero, List.setIfInBounds_toArray, List.set_cons_zero, List.set_cons_succ, List.getElem?_cons_zero, List.getElem?_cons_succ, Nat.zero_add, Nat.reduceAdd] at hK ⊢
        refine OpB.mk' ?_
        go_simp
        exact hK.out _ _ rfl (fun h => by cases h) (fun _ => Ext.refl _)
      · refine opF2_step ?_
        intro ys l0 h0 w' hr hs hf K hK
        obtain ⟨f0, f1, -⟩ := hf
        have e0 : ys 3 = _ := f0
        have e1 : ys 4 = _ := f1
        clear hs
        simp only [fill, Act.put, dstO, List.take_succ_cons, List.take_zero, List.setIfInBounds_toArray, List.set_cons_zero, List.set_cons_succ, List.getElem?_cons_zero, List.getElem?_cons_succ, Nat.zero_add, Nat.reduceAdd] at hK ⊢
        simp only [e0, e1] at hK ⊢
        clear e0 e1 f0 f1
        refine OpB.mk' ?_
        go_simp
        exact hK.out _ _ rfl (fun h => by cases h) (fun _ => Ext.refl _)
      · refine opF2_step ?_
        intro ys l0 h0 w' hr hs hf K hK
        obtain ⟨f0, -⟩ := hf
        have e0 : ys 5 = _ := f0
        obtain ⟨j0, j1⟩ := HKC.out w' ((GrB.ext ((Ext.refl wr).drew)).trans hr)
        clear hs
        simp only [fill, Act.put, dstO, List.take_succ_cons, List.take_zero, List.setIfInBounds_toArray, List.set_cons_zero, List.set_cons_succ, List.getElem?_cons_zero, List.getElem?_cons_succ, Nat.zero_add, Nat.reduceAdd] at hK ⊢
        simp only [e0] at hK ⊢
        clear e0 f0
        refine OpB.mk' ?_
        go_simp
        exact hK.out _ _ rfl (fun h => by cases h) (fun _ => Ext.refl _)
      · refine opF2_step ?_
        intro ys l0 h0 w' hr hs hf K hK
        obtain ⟨f0, -⟩ := hf
        have e0 : ys 6 = _ := f0
        clear hs
        simp only [fill, Act.put, dstO, List.take_succ_cons, List.take_zero, List.setIfInBounds_toArray, List.set_cons_zero, List.set_cons_succ, List.getElem?_cons_zero, List.getElem?_cons_succ, Nat.zero_add, Nat.reduceAdd] at hK ⊢
        simp only [e0] at hK ⊢
        clear e0 f0
        refine OpB.mk' ?_
        go_simp
        exact hK.out _ _ ⟨_, rfl, by have := hr.size; exact this, heap_new _ _⟩ (fun h => by cases h) (fun _ => Ext.alloc (Ext.refl _) _)
      · refine opF2_step ?_
        intro ys l0 h0 w' hr hs hf K hK
        obtain ⟨f0, f1, -⟩ := hf
        have e0 : ys 2 = _ := f0
        obtain ⟨g0, e1, hB0, hg0⟩ := f1
        clear hs
        simp only [fill, Act.put, dstO, List.take_succ_cons, List.take_zero, List.setIfInBounds_toArray, List.set_cons_zero, List.set_cons_succ, List.getElem?_cons_zero, List.getElem?_cons_succ, Nat.zero_add, Nat.reduceAdd] at hK ⊢
        simp only [e0, e1] at hK ⊢
        clear e0 e1 f0
        refine OpB.mk' ?_
        go_simp
        exact hK.out _ _ ⟨g0, rfl, hB0, hg0⟩ (fun h => by cases h) (fun _ => Ext.refl _)
      · refine opF2_step ?_
        intro ys l0 h0 w' hr hs hf K hK
        obtain ⟨f0, -⟩ := hf
        obtain ⟨g0, e0, hB0, hg0⟩ := f0
        clear hs
        simp only [fill, Act.put, dstO, List.take_succ_cons, List.take_zero, List.setIfInBounds_toArray, List.set_cons_zero, List.set_cons_succ, List.getElem?_cons_zero, List.getElem?_cons_succ, Nat.zero_add, Nat.reduceAdd] at hK ⊢
        simp only [e0] at hK ⊢
        clear e0
        refine OpB.mk' ?_
        go_simp
        exact hK.out _ _ ⟨g0, _, rfl, hB0, by have := hr.size; exact this, heap_ext3 hg0 (Ext.alloc (Ext.refl _) _), heap_new _ _⟩ (fun h => by cases h) (fun _ => Ext.alloc (Ext.refl _) _)
      · refine opF2_step ?_
        intro ys l0 h0 w' hr hs hf K hK
        obtain ⟨f0, f1, -⟩ := hf
        have e0 : ys 1 = _ := f0
        obtain ⟨g0, h1, e1, hB0, hB1, hg0, hg1⟩ := f1
        have hE0 := hs (Or.inl rfl)
        have hsz := hr.size
        clear hs
        simp only [fill, Act.put, dstO, List.take_succ_cons, List.take_zero, List.setIfInBounds_toArray, List.set_cons_zero, List.set_cons_succ, List.getElem?_cons_zero, List.getElem?_cons_succ, Nat.zero_add, Nat.reduceAdd] at hK ⊢
        simp only [e0, e1] at hK ⊢
        clear e0 e1 f0
        refine OpB.mkG rfl ?_
        refine wp_append_lies _ (.tmp 65) (.tmp 73) 55 rfl (b + 1) 59 i0 _ 4 48 Try.underlying55 HI0.out.1 HI0.out.2.1 HI0.out.2.2.1 HI0.out.2.2.2 rfl (by decide) _ k _ rfl (ownsRow_ext HHR.out ((Ext.refl _).drew.trans hE0)) ⟨h1, 0, none⟩ 1 1 [.int .i64 k, .int .i64 99999, .int .i64 0, .slice (some ⟨g0, 0, none⟩) 1 1] rfl rfl (one_news2 hg1) (by intro u hu; simp at hu; rcases hu with rfl | rfl | rfl | rfl <;> rfl) (by decide) (by unfold maxLen; omega) (by omega) (by have : (wr.drew).heap.size = wr.heap.size := rfl; omega) _ rfl ?_
        intro g4 cap4 w4 ho4 hg4 hor _
        exact hK.out _ _ ⟨g0, g4, cap4, rfl, hB0, GrB.keep hg4 hg0 (fun e => by have := HRB.out g0 e.symm; omega), ho4⟩ (fun _ => hg4) (fun h => absurd rfl h)
      · refine opF2_step ?_
        intro ys l0 h0 w' hr hs hf K hK
        clear hf
        clear hs
        simp only [fill, Act.put, dstO, List.take_succ_cons, List.take_zero, List.setIfInBounds_toArray, List.set_cons_zero, List.set_cons_succ, List.getElem?_cons_zero, List.getElem?_cons_succ, Nat.zero_add, Nat.reduceAdd] at hK ⊢
        refine OpB.mk' ?_
        go_simp
        exact hK.out _ _ rfl (fun h => by cases h) (fun _ => Ext.refl _)
      intro ys l0 h0 w2 hr hf hsp
      obtain ⟨f10, f11, -⟩ := hf
      obtain ⟨g0, g4, cap4, e10, hB0, hg0, ho4⟩ := f10
      have e11 : ys 11 = _ := f11
      simp only [fill, Act.put, List.take_succ_cons, List.take_zero, List.setIfInBounds_toArray, List.set_cons_zero, List.set_cons_succ, Nat.zero_add, Nat.reduceAdd, List.drop_succ_cons, List.drop_zero]
      rw [e11]
      clear e11 f11
      rw [e10] at ho4 ⊢
      clear hsp
      have hG := (GrB.ext ((Ext.refl wr).drew) : GrB vR.ownBlock wr wr.drew).trans hr
      obtain ⟨hm2, hE2⟩ := HKM.out w2 hG
      have HG := Lib.hid hG
      have HO4 := Lib.hid ho4
      have HG0 := Lib.hid hg0
      have HE2 := Lib.hid hE2
      have HM2 := Lib.hid hm2
      have c5 := cell_of_heap hm2 5
      have f5 := cell_frozen hm2 5
      simp only [List.getElem?_toArray, List.getElem?_cons_zero, List.getElem?_cons_succ] at c5
      clear hr hG ho4 hg0 hE2 hm2 e10 HKC HKM
      go_wp2
      refine ⟨⟨k + 1, by omega, by rw [HSS.out], by simp, _, vs ++ [.int .i64 (k : Int), .int .i64 99999, .int .i64 0, .slice (some ⟨g0, 0, none⟩) 1 1], Ext.setCell HE2.out (p := ⟨b, 5, none⟩) (by have := HB.out; exact Nat.le_of_eq this.symm) _, heap_set HM2.out rfl, ?_⟩, by simp [intOf]; omega⟩
      have h := HHT.out.step (g := g0) (x := x) (cap := cap4) (g' := g4) HG.out (by rw [HLE.out]; exact HO4.out) (by omega) HG0.out
      rw [HLE.out, ← HTK.out] at h
      exact h.off (by omega)
    · obtain rfl : k = n := by omega
      have htk : L.take k = L := List.take_of_length_le (by have := HL.out; omega)
      have hks : We.smL L k = We.smL L L.length := by rw [HL.out]
      rw [htk] at hR
      obtain ⟨rp, rc, rfl, hRA⟩ := hR.recs
      have hI5 : IntsAt wr (some ⟨g1, 0, none⟩) [ro] := (IntsAt.cells [ro] HM5.out).ext hE
      have hwv : We.WrV wr (.agg #[.int .i64 1, .int .i64 0, .int .i64 ag, .int .i64 10, .slice (some ⟨g1, 0, none⟩) 1 1, .slice rp L.length rc]) (We.ndW ag ro L) :=
        ⟨some ⟨g1, 0, none⟩, 1, rp, rc, by simp [We.ndW, We.ndRecs_len], hI5, hRA⟩
      have hL4 : L.length ≤ 4 := by have := HL.out; omega
      have HWV := Lib.hid (fun y (h : Ext wr y) => We.WrV.mono _ _ _ _ h hwv)
      have HMO := Lib.hid (We.nd_modest (age := ag) (rough := ro) (L := L) (by omega))
      have hER : Ext W wr := HE53.out.trans hE
      have HER := Lib.hid (HE.out.trans hER)
      have HCD := Lib.hid (fun x : ExtW wr => ExtW.callX (x := x) (dayPlayed03 x.w))
      have HIL := Lib.hid ((row_ints (c := k) (by have h := HO3.out; rw [← HL.out] at h ⊢; exact h)).ext (HE5.out.trans hE))
      obtain ⟨ck, hck⟩ : ∃ ck, ck = We.chkW (We.ndW ag ro L) := ⟨_, rfl⟩
      have HCK := Lib.hid (fun x : ExtW wr => ExtW.callX (v := .int .i64 ck) (x := x) (by
        have h := We.rCheck03 _ (We.ndW ag ro L) x.w (HWV.out _ x.h) HMO.out
        rw [← hck] at h
        exact h))
      have hkc : ck = 0 ∧ We.ValidW (We.ndW ag ro L) ∨ ck = 30 := by
        unfold We.chkW at hck
        split at hck
        · rename_i h; exact Or.inl ⟨hck, bP_iff.1 h⟩
        · exact Or.inr hck
      have c0 := ExtW.cell (v := .int .i64 1) (cell_of_heap hm 0)
      have c1 := ExtW.cell (v := .int .i64 0) (cell_of_heap hm 1)
      have c2 := ExtW.cell (v := .int .i64 ag) (cell_of_heap hm 2)
      have c3 := ExtW.cell (v := .int .i64 10) (cell_of_heap hm 3)
      have c4 := ExtW.cell (v := .slice (some ⟨g1, 0, none⟩) 1 1) (cell_of_heap hm 4)
      have c5 := ExtW.cell (v := .slice rp L.length rc) (cell_of_heap hm 5)
      have e0 := ExtW.cell (hER.cell (cell_of_heap HM1.out 0) : wr.cell? ⟨s1, 0, none⟩ = some (.int .i64 ag))
      have e1 := ExtW.cell (hER.cell (cell_of_heap HM1.out 1) : wr.cell? ⟨s1, 1, none⟩ = some (.int .i64 nw))
      have e2 := ExtW.cell (hER.cell (cell_of_heap HM1.out 2) : wr.cell? ⟨s1, 2, none⟩ = some (.int .i64 ro))
      have HKS := Lib.hid hks
      have HL4 := Lib.hid hL4
      obtain ⟨sm, hsm⟩ : ∃ sm, sm = We.smL L k := ⟨_, rfl⟩
      have hsb := psB HLB.out k (by have := HL.out; omega)
      rw [← hsm] at hsb HKS ⊢
      obtain ⟨y1, hy1⟩ := ExtW.of (Ext.refl wr)
      clear hE hm hR hRA hI5 hwv hL4 hER hck htk hks hsm a0 a1 a2 a3 a4 b0 b1 b2 hlt
      conv => arg 5; rw [hy1]
      clear hy1
      rcases hkc with ⟨rfl, hval⟩ | rfl
      case inr =>
        go_wp2_with (first
          | (go_at_call 19; refine (HCK.out _).mono ?_; rintro e _ ⟨rfl, xk, rfl, -⟩)
          | (go_at_call 17; refine (HCD.out _).mono ?_; rintro e w2 ⟨rfl, xc, rfl, -⟩))
        go_ret
        exact RetE.fin (HER.out.trans xc.h) rfl
      have HVAL := Lib.hid hval
      have hag : 0 ≤ ag ∧ ag ≤ 9999 := hval.age
      have hro : 0 ≤ ro ∧ ro ≤ 99 := hval.rg 0 (by show 0 < 1; omega)
      have h01 : nw = 0 ∨ nw = 1 := by omega
      have H01 := Lib.hid h01
      clear hval
      have hmb : 0 ≤ (1 - nw) * ag ∧ (1 - nw) * ag ≤ 9999 := by
        rcases h01 with rfl | rfl
        · rw [show (1 - 0 : Int) * ag = ag by omega]; exact hag
        · rw [show (1 - 1 : Int) * ag = 0 by simp]; omega
      have hw1 : IntKind.i64.wrap (1 - nw) = 1 - nw := IntWalk.i64_in _ (by omega)
      obtain ⟨md, hmd⟩ : ∃ md, md = (1 - nw) * ag := ⟨_, rfl⟩
      rw [← hmd] at hmb
      have hw2 : IntKind.i64.wrap ((1 - nw) * ag) = md := by rw [← hmd]; exact IntWalk.i64_in _ (by omega)
      have hw3 : IntKind.i64.wrap (sm + md) = sm + md := IntWalk.i64_in _ (by omega)
      have hne : ((sm + md) != (sm + md)) = false := by simp
      have HRUN := Lib.hid (fun x : ExtW wr => (by
        have hwk : We.WksAt (x.w.alloc (.cells #[.int .i64 nw, .slice none 0 0] 64)) (some ⟨x.w.heap.size, 0, none⟩) (We.ndP nw) := by
          intro i hi
          have hi' : i < 1 := hi
          obtain rfl : i = 0 := by omega
          have hm := heap_new x.w (.cells #[.int .i64 nw, .slice none 0 0] 64)
          exact ⟨x.w.heap.size, 0, none, 0, rfl, cell_of_heap hm 0, cell_of_heap hm 1, IntsAt.nil _ _⟩
        have h := We.Run03 _ (We.ndW ag ro L) (some ⟨x.w.heap.size, 0, none⟩) (We.ndP nw) 1 _ (HWV.out _ (x.h.alloc _)) HMO.out (by show 1 ≤ 100000; omega) (fun z hz => by rw [List.mem_singleton.1 hz]; show 0 ≤ 100000; omega) hwk
        have h2 := h.mono fun e w2 hr => run_nd HVAL.out H01.out (fun z hz => (HLB.out z hz).1) hr
        rw [← HKS.out, ← hmd] at h2
        exact h2 : Calls Try.prog 20 #[.agg #[.int .i64 1, .int .i64 0, .int .i64 ag, .int .i64 10, .slice (some ⟨g1, 0, none⟩) 1 1, .slice rp L.length rc], .slice (some ⟨x.w.heap.size, 0, none⟩) 1 1] (x.w.alloc (.cells #[.int .i64 nw, .slice none 0 0] 64)) (RunNd L (sm + md) ro (x.w.alloc (.cells #[.int .i64 nw, .slice none 0 0] 64)))))
      have hlI : ((L.length : Int) != (k : Int)) = false := by have := HL.out; simp; omega
      have hlN : (L.length != k) = false := by have := HL.out; simp; omega
      have hsmb : 0 ≤ sm ∧ sm ≤ 60 := by omega
      clear h01 hmd
      go_upto_region 15 with (go_at_call 19; refine (HCK.out _).mono ?_; rintro e _ ⟨rfl, xk, rfl, -⟩)
      go_upto_region 16 with (go_at_call 20; refine (HRUN.out xk).mono ?_; rintro e W9 ⟨hE9, wp, wc, wz, rfl, hI9⟩)
      have hEK : Ext wr W9 := (xk.h.alloc _).trans hE9
      have f0 : ∀ x : ExtW W9, x.w.cell? ⟨s1, 0, none⟩ = some (.int .i64 ag) := fun x => e0 ⟨x.w, hEK.trans x.h⟩
      have f1 : ∀ x : ExtW W9, x.w.cell? ⟨s1, 1, none⟩ = some (.int .i64 nw) := fun x => e1 ⟨x.w, hEK.trans x.h⟩
      have f2 : ∀ x : ExtW W9, x.w.cell? ⟨s1, 2, none⟩ = some (.int .i64 ro) := fun x => e2 ⟨x.w, hEK.trans x.h⟩
      have HCD := Lib.hid (fun x : ExtW W9 => ExtW.callX (x := x) (dayPlayed03 x.w))
      have HER := Lib.hid (HER.out.trans hEK)
      have HI9 := Lib.hid hI9
      have HIL := Lib.hid (HIL.out.ext hEK)
      obtain ⟨y9, hy9⟩ := ExtW.of (Ext.refl W9)
      clear c0 c1 c2 c3 c4 c5 e0 e1 e2 hEK hE9 hI9 HRUN HCK HWV
      conv => arg 5; rw [hy9]
      clear hy9
      go_upto_region 18 with (fail)
      go_wp2
      go_loopw [14] (fun a wz => ∃ j : Nat, j ≤ k ∧ a = .int .i64 j ∧ ∃ y : ExtW W9, wz = y.w) (fun a _ => k - (intOf a).toNat)
      case atStart => exact ⟨0, Nat.zero_le _, rfl, y9, rfl⟩
      case round =>
        obtain ⟨j, hj, rfl, y, rfl⟩ := hrel
        by_cases hlt : j < k
        · have hlt' : (j : Int) < (k : Int) := by omega
          have hjl : j < L.length := by have := HL.out; omega
          obtain ⟨x, hx⟩ : ∃ x, x = L[j] := ⟨_, rfl⟩
          have hxb : 0 ≤ x ∧ x ≤ 12 := by rw [hx]; exact HLB.out _ (List.getElem_mem hjl)
          obtain ⟨pb, po, pv, hpp, hpc, hpv⟩ := HI9.out j (by simpa using hjl)
          obtain ⟨qb, qo, qv, hqp, hqc, hqv⟩ := HIL.out j hjl
          cases hqp
          subst hpp
          have hd : L.getD j 0 = x := by rw [hx]; simp [List.getD_eq_getElem?_getD, hjl]
          simp only [List.getElem_map, List.getElem_range, hd] at hpv
          rw [← hx] at hqv
          subst hpv hqv
          obtain ⟨pr, hpr⟩ : ∃ pr, pr = x * ro := ⟨_, rfl⟩
          have hprb : 0 ≤ pr ∧ pr ≤ 1188 := by
            rw [hpr]
            refine ⟨Int.mul_nonneg hxb.1 hro.1, ?_⟩
            have h1 : x * ro ≤ 12 * ro := Int.mul_le_mul_of_nonneg_right hxb.2 hro.1
            omega
          rw [← hpr] at hpc
          have hw4 : IntKind.i64.wrap (x * ro) = pr := by rw [← hpr]; exact IntWalk.i64_in _ (by omega)
          have hw5 : IntKind.i64.wrap ((j : Int) + pr) = (j : Int) + pr := IntWalk.i64_in _ (by omega)
          have hn5 : (((j : Int) + pr) != ((j : Int) + pr)) = false := by simp
          have u0 := ExtW.cell hpc
          have u1 := ExtW.cell hqc
          have hjL : (j : Int) < (L.length : Int) := by omega
          clear hpc hqc hd hx hjl hpr
          rw [Nat.zero_add] at u1
          go_upto_region 21 with (fail)
          refine wp_region_extW (by kernel_rfl) (by kernel_rfl) ?_
          repeat (go_big_quiet_step (fail))
          refine wpQuiet_nil ?_
          rintro _ ⟨x2, rfl⟩
          go_wp2
          exact ⟨⟨j + 1, by omega, by simp, x2, rfl⟩, by simp [intOf]; omega⟩
        · obtain rfl : j = k := by omega
          clear hlt
          go_wp2_with (go_at_call 17; refine (HCD.out _).mono ?_; rintro e w2 ⟨rfl, xc, rfl, -⟩)
          go_ret
          exact RetE.fin (HER.out.trans xc.h) rfl
end Go.Proofs.Ytppncdbhebgcaaa
