
/- The numbers of a meter of one week: plain law. The walk of charted. Tables of one number each: plain law. A chart of titles of one number each: what it answers. A drawn region by facts, two of whose operations write what others read ahead of them. No program in sight. Two rows that grow in one region. -/
import Derived.Test.YtppncdbhebgcaaaGreatDoorYB
import Derived.Test.YtppncdbhebgcaaaGreatDoorE4e
import Derived.Test.YtppncdbhebgcaaaGreatDoorDA
import Derived.Test.YtppncdbhebgcaaaGreatDoorVA
import Derived.StillTail
import Derived.RegionTactic
namespace Go.Proofs.YtppncdbhebgcaaaGreatDoor
open Go.RowKit

/-- a meter of one week that counts from lo to hi, without a reading -/
def mOne (lo hi : Int) : Mt := ⟨[(lo, hi)], [], 0⟩
theorem mOne_valid {lo hi : Int} (h0 : 0 ≤ lo) (h1 : lo ≤ hi) (h2 : hi ≤ 300) : ValidM (mOne lo hi) :=
  ⟨by show 1 ≤ 5; omega, by show 0 ≤ 7; omega, Int.le_refl _, by show (0 : Int) ≤ 7; omega, fun x hx => by rw [List.mem_singleton.1 hx]; exact ⟨h0, h1, h2⟩, fun r hr => (List.not_mem_nil hr).elim⟩
theorem mOne_tru {lo hi : Int} {D : Nat → Int} : Tru (mOne lo hi) D ↔ lo ≤ D 1 - D 0 ∧ D 1 - D 0 ≤ hi := by
  constructor
  · intro h
    exact h.1 0 (Nat.le_refl _) (show 0 < 1 by omega)
  · intro h
    refine ⟨fun i h0 h1 => ?_, ?_⟩
    · have h1' : i < 1 := h1
      obtain rfl : i = 0 := by omega
      exact h
    · show ((0 : Nat) : Int) ≤ 0
      omega
theorem mOne_ask {lo hi : Int} (h0 : 0 ≤ lo) (h1 : lo ≤ hi) (h2 : hi ≤ 300) : askV (mOne lo hi) true = 0 := by
  rw [askV_iff (mOne_valid h0 h1 h2)]
  exact ⟨fun i => if i = 0 then 0 else lo, mOne_tru.2 (by simp; omega)⟩
theorem mOne_bits {lo hi : Nat} (h1 : lo ≤ hi) (h2 : hi ≤ 300) : bitsN (betTo (mOne lo hi) 0 1 100) = (List.range 1536).filter (fun n => decide (lo ≤ n) && decide (n ≤ hi)) := by
  unfold bitsN
  refine List.filter_congr fun n hn => ?_
  rw [bet_eq (mOne_valid (by omega) (by omega) (by omega)) (Nat.zero_le 1) (Nat.le_refl _), Bool.eq_iff_iff, between_law (mOne_valid (by omega) (by omega) (by omega)) (Nat.zero_le 1) (Nat.le_refl _), Bool.and_eq_true, decide_eq_true_eq, decide_eq_true_eq]
  constructor
  · rintro ⟨D, hD, he⟩
    have := mOne_tru.1 hD
    omega
  · rintro ⟨h3, h4⟩
    exact ⟨fun i => if i = 0 then 0 else (n : Int), mOne_tru.2 (by simp; omega), by simp⟩
theorem mOne_sums {lo hi : Nat} (h1 : lo ≤ hi) (h2 : hi ≤ 300) : sumsA (mOne lo hi) 0 1 = ((List.range 1536).filter (fun n => decide (lo ≤ n) && decide (n ≤ hi))).map fun n : Nat => (n : Int) := by
  have ha : askV (mOne lo hi) (areB 0 1 (mOne lo hi).weeks.length) = 0 := mOne_ask (by omega) (by omega) (by omega)
  unfold sumsA
  rw [okL_0 ha, bitsI_eq]
  show (bitsN (betTo (mOne lo hi) 0 1 100)).map _ = _
  rw [mOne_bits h1 h2]
theorem range_one : ∀ x : Fin 41, (List.range 1536).filter (fun n => decide (x.val ≤ n) && decide (n ≤ x.val)) = [x.val] := by decide +kernel
/-- just one number -/
theorem mOne_one {x : Int} (h0 : 0 ≤ x) (h1 : x ≤ 40) : sumsA (mOne x x) 0 1 = [x] := by
  obtain ⟨n, rfl⟩ : ∃ n : Nat, x = n := ⟨x.toNat, by omega⟩
  rw [mOne_sums (Nat.le_refl _) (by omega), range_one ⟨n, by omega⟩]
  rfl
theorem mOne_two : sumsA (mOne 1 2) 0 1 = [1, 2] := by
  have h := mOne_sums (lo := 1) (hi := 2) (by omega) (by omega)
  rw [show (List.range 1536).filter (fun n => decide (1 ≤ n) && decide (n ≤ 2)) = [1, 2] from by decide +kernel] at h
  exact h
end Go.Proofs.YtppncdbhebgcaaaGreatDoor
namespace Go.Proofs.YtppncdbhebgcaaaGreatDoor
open Go.RowKit

def TwoC : Ch := ⟨[mOne 1 2, mOne 1 2], [0, 0], 0, 1⟩
theorem two_valid : ValidC TwoC := (okC_iff TwoC).1 (by
  have h : okB (mOne 1 2) = true := (okB_iff _).2 (mOne_valid (by omega) (by omega) (by omega))
  have h2 : mtB 1 (mOne 1 2) = true := by unfold mtB; rw [h]; rfl
  unfold okC
  show (headC TwoC && ([(0 : Int), 0].all extB && [mOne 1 2, mOne 1 2].all (mtB 1))) = true
  rw [show headC TwoC = true from rfl, show [(0 : Int), 0].all extB = true from rfl]
  simp [h2])
theorem two_err : errC TwoC true = 0 := errC_ok two_valid (by
  have h : askV (mOne 1 2) true = 0 := mOne_ask (by omega) (by omega) (by omega)
  unfold someN
  rw [Bool.eq_false_iff]
  intro hc
  obtain ⟨i, hi, he⟩ := List.any_eq_true.1 hc
  have hi' : i < 2 := List.mem_range.1 hi
  have hm : mtC TwoC i = mOne 1 2 := by
    rcases (by omega : i = 0 ∨ i = 1) with rfl | rfl <;> rfl
  rw [hm] at he
  exact bP_iff.1 he h)
theorem two_tab : tabC TwoC = [[1, 2], [1, 2]] := by
  have h : rowC TwoC 0 = [1, 2] ∧ rowC TwoC 1 = [1, 2] := by
    have e : (sumsA (mOne 1 2) 0 1).map (· + (0 : Int)) = [1, 2] := by rw [mOne_two]; rfl
    exact ⟨e, e⟩
  show [rowC TwoC 0, rowC TwoC 1] = _
  rw [h.1, h.2]
theorem two_ord : ordersA TwoC = 2 := by
  unfold ordersA
  rw [two_err, two_tab]
  show okN 0 _ = 2
  decide +kernel

set_option maxRecDepth 20000 in
set_option maxHeartbeats 3200000 in
theorem charted07 (w : World) (hT : TabW w) : Calls Tryz.prog 15 #[] w (RetE (.bool true) w) := by
  obtain ⟨s0, hs0⟩ : ∃ s, s = w.heap.size := ⟨_, rfl⟩
  obtain ⟨W, hW⟩ : ∃ W, W = (((w.alloc (.cells #[.int .i64 1, .int .i64 2] 38)).alloc (.cells #[.slice (some ⟨s0, 0, none⟩) 1 1, .slice none 0 0, .int .i64 0] 55)).alloc
    (.cells #[.slice (some ⟨s0, 0, none⟩) 1 1, .slice none 0 0, .int .i64 0, .slice (some ⟨s0, 0, none⟩) 1 1, .slice none 0 0, .int .i64 0] 55)).alloc (.cells #[.int .i64 0, .int .i64 0] 3) := ⟨_, rfl⟩
  have hE : Ext w W := by rw [hW]; exact ((((Ext.refl w).alloc _).alloc _).alloc _).alloc _
  have m0 : W.heap[s0]? = some (.cells #[.int .i64 1, .int .i64 2] 38) := by rw [hs0, hW]; exact heap_ext3 (heap_new _ _) ((((Ext.refl _).alloc _).alloc _).alloc _)
  have m2 : W.heap[s0 + 1 + 1]? = some (.cells #[.slice (some ⟨s0, 0, none⟩) 1 1, .slice none 0 0, .int .i64 0, .slice (some ⟨s0, 0, none⟩) 1 1, .slice none 0 0, .int .i64 0] 55) := by rw [hs0, hW, hs0]; exact heap_ext3 (heap_new3 _ _ _ _) ((Ext.refl _).alloc _)
  have m3 : W.heap[s0 + 1 + 1 + 1]? = some (.cells #[.int .i64 0, .int .i64 0] 3) := by
    rw [hs0, hW]
    have := heap_new (((w.alloc (.cells #[.int .i64 1, .int .i64 2] 38)).alloc (.cells #[.slice (some ⟨s0, 0, none⟩) 1 1, .slice none 0 0, .int .i64 0] 55)).alloc
      (.cells #[.slice (some ⟨s0, 0, none⟩) 1 1, .slice none 0 0, .int .i64 0, .slice (some ⟨s0, 0, none⟩) 1 1, .slice none 0 0, .int .i64 0] 55)) (.cells #[.int .i64 0, .int .i64 0] 3)
    rw [size_alloc, size_alloc, size_alloc] at this
    exact this
  have hwk : PairsAt W (some ⟨s0, 0, none⟩) (mOne 1 2).weeks := PairsAt.cells (t := 38) (f := (0, 0)) m0
  have hv : ChV W (.agg #[.slice (some ⟨s0 + 1 + 1, 0, none⟩) 2 2, .slice (some ⟨s0 + 1 + 1 + 1, 0, none⟩) 2 2, .int .i64 0, .int .i64 1]) TwoC := by
    refine ⟨_, 2, _, 2, rfl, fun i hi => ?_, IntsAt.cells [0, 0] m3⟩
    have hi' : i < 2 := hi
    rcases (by omega : i = 0 ∨ i = 1) with rfl | rfl
    · exact ⟨_, 0, _, 1, none, 0, rfl, cell_of_heap m2 0, cell_of_heap m2 1, cell_of_heap m2 2, hwk, PairsAt.nil _ _⟩
    · exact ⟨_, 0, _, 1, none, 0, rfl, cell_of_heap m2 3, cell_of_heap m2 4, cell_of_heap m2 5, hwk, PairsAt.nil _ _⟩
  have HO := Lib.hid (by
    have := Orders06 TwoC _ W hv ⟨by show 2 ≤ 20; omega, by show 2 ≤ 40; omega, fun M hM => by
      have : M = mOne 1 2 := by rcases List.mem_cons.1 hM with h | h; exact h; exact List.mem_singleton.1 h
      rw [this]; exact ⟨by show 1 ≤ 40; omega, by show 0 ≤ 40; omega⟩⟩ (hT.ext hE)
    rw [two_ord, two_err] at this
    exact this : Calls Tryz.prog 17 #[.agg #[.slice (some ⟨s0 + 1 + 1, 0, none⟩) 2 2, .slice (some ⟨s0 + 1 + 1 + 1, 0, none⟩) 2 2, .int .i64 0, .int .i64 1]] W (RetE (.tuple #[.int .i64 2, .int .i64 0]) W))
  have HE := Lib.hid hE
  clear hT m0 m2 m3 hwk hv hE
  go_enter Tryz.func15, Tryz.ntmps15
  go_upto_region 2 with (fail)
  go_wp2_with (go_at_call 17; rw [← hs0, ← hW]; refine HO.out.mono ?_; rintro e w2 ⟨rfl, hE2⟩)
  go_ret
  exact RetE.fin (HE.out.trans hE2) rfl
end Go.Proofs.YtppncdbhebgcaaaGreatDoor
namespace Go.Proofs.YtppncdbhebgcaaaGreatDoor
open Go.RowKit

def oneT (L : List Int) : Tab := L.map fun x => [x]
def xsL (L : List Int) (i : Nat) : Int := L.getD i 0
theorem oneT_len (L : List Int) : (oneT L).length = L.length := by simp [oneT]
theorem oneT_ok (L : List Int) : TabOK (oneT L) := fun l hl => by
  obtain ⟨x, -, rfl⟩ := List.mem_map.1 hl
  exact ⟨by simp, List.pairwise_singleton _ _⟩
theorem rowT_one {L : List Int} {i : Nat} (h : i < L.length) : rowT (oneT L) i = [xsL L i] := by
  rw [rowT_get (by rw [oneT_len]; exact h)]
  simp [oneT, xsL, h]
theorem lo_one {L : List Int} {i : Nat} (h : i < L.length) : loT (oneT L) i = xsL L i := by unfold loT; rw [rowT_one h]; rfl
theorem hi_one {L : List Int} {i : Nat} (h : i < L.length) : hiT (oneT L) i = xsL L i := by unfold hiT; rw [rowT_one h]; rfl
theorem tru_one {L : List Int} {x : Nat → Int} (h : TruN L.length (rowT (oneT L)) x) : ∀ i, i < L.length → x i = xsL L i := fun i hi => by
  have := h i hi
  rw [rowT_one hi] at this
  exact List.mem_singleton.1 this
theorem rk_one {L : List Int} {i : Nat} (h : i < L.length) : rkLo (oneT L) i = rnk L.length (xsL L) i ∧ rkHi (oneT L) i = rnk L.length (xsL L) i := by
  have hl := oneT_len L
  obtain ⟨x, hx, e1⟩ := rkLo_ex (oneT_ok L) (i := i) (by omega)
  obtain ⟨y, hy, e2⟩ := rkHi_ex (oneT_ok L) (i := i) (by omega)
  rw [hl] at hx e1 hy e2
  exact ⟨by rw [← e1]; exact rnk_congr (tru_one hx) h, by rw [← e2]; exact rnk_congr (tru_one hy) h⟩
/-- there is just one order -/
theorem ords_one (L : List Int) : (allO L.length (rowT (oneT L))).length = 1 := by
  have hT : ∀ i, (rowT (oneT L) i).Pairwise (· < ·) := fun i => (oneT_ok L).row i
  have h1 := allO_pos (n := L.length) hT (fun i hi => by rw [rowT_one hi]; simp)
  have hall : ∀ π ∈ allO L.length (rowT (oneT L)), ∀ ρ ∈ allO L.length (rowT (oneT L)), π = ρ := by
    intro π hπ ρ hρ
    obtain ⟨x, hx, h2⟩ := (mem_allO hT).1 hπ
    obtain ⟨y, hy, h3⟩ := (mem_allO hT).1 hρ
    exact ord_same h2 h3 fun i hi => rnk_congr (fun j hj => by rw [tru_one hx j hj, tru_one hy j hj]) hi
  have hn := nodup_allO (n := L.length) (T := rowT (oneT L))
  cases ho : allO L.length (rowT (oneT L)) with
  | nil => rw [ho] at h1; simp at h1
  | cons a r =>
    cases r with
    | nil => rfl
    | cons b r =>
      rw [ho] at hall hn
      have hab := hall a List.mem_cons_self b (by simp)
      rw [hab] at hn
      simp at hn
/-- the k-th of the order is the one of this rank -/
theorem ord_one {L : List Int} {i : Nat} (h : i < L.length) : ∃ hk : rnk L.length (xsL L) i - 1 < (ordI L.length (xsL L)).length, (ordI L.length (xsL L))[rnk L.length (xsL L) i - 1] = (i : Int) := by
  have h1 := rnk_pos L.length (xsL L) i
  have h2 := rnk_le (n := L.length) (x := xsL L) h
  have hk : rnk L.length (xsL L) i - 1 < (ordI L.length (xsL L)).length := by rw [ordI_len]; omega
  refine ⟨hk, ?_⟩
  obtain ⟨j, e1, e2, e3⟩ := ordI_get hk
  rw [e1, rnk_inj h e2 (by omega : rnk L.length (xsL L) i = rnk L.length (xsL L) j)]
/-- so many have a rank up to f -/
theorem count_one {L : List Int} {f : Nat} (hf : f ≤ L.length) : (List.range L.length).countP (fun i => decide (rnk L.length (xsL L) i ≤ f)) = f := by
  obtain ⟨π, hπ⟩ := ord_ex L.length (xsL L)
  rw [← hπ.1.countP_eq]
  have hl := hπ.len
  have e : π.map (rnk L.length (xsL L)) = (List.range L.length).map (· + 1) := by
    apply List.ext_getElem
    · simp [hl]
    · intro k h1 h2
      rw [List.getElem_map, List.getElem_map, List.getElem_range]
      exact hπ.rank (by simpa using h1)
  have e2 : π.countP (fun i => decide (rnk L.length (xsL L) i ≤ f)) = (π.map (rnk L.length (xsL L))).countP (fun k => decide (k ≤ f)) := by rw [List.countP_map]; rfl
  rw [e2, e, List.countP_map]
  have key : ∀ n, f ≤ n → (List.range n).countP ((fun k => decide (k ≤ f)) ∘ (· + 1)) = f := by
    intro n
    induction n with
    | zero => intro h; simp; omega
    | succ n ih =>
      intro h
      rw [List.range_succ, List.countP_append, List.countP_singleton]
      by_cases c : f ≤ n
      · rw [ih c, if_neg (by simp; omega)]; omega
      · have hfn : f = n + 1 := by omega
        have hz : (List.range n).countP ((fun k => decide (k ≤ f)) ∘ (· + 1)) = (List.range n).length :=
          List.countP_eq_length.2 fun a ha => by have := List.mem_range.1 ha; simp; omega
        rw [List.length_range] at hz
        rw [hz, if_pos (by simp; omega)]; omega
  exact key _ hf
theorem top_one (L : List Int) (f : Nat) : topL (oneT L) f = pickTo (fun i => decide (rnk L.length (xsL L) i ≤ f)) L.length ∧ mayL (oneT L) f = pickTo (fun i => decide (rnk L.length (xsL L) i ≤ f)) L.length := by
  unfold topL mayL
  rw [oneT_len]
  refine ⟨pick_congr fun i hi => ?_, pick_congr fun i hi => ?_⟩
  · unfold topF; rw [(rk_one hi).2]; exact decide_eq_decide.2 (by omega)
  · unfold mayF; rw [(rk_one hi).1]; exact decide_eq_decide.2 (by omega)
theorem top_one_len {L : List Int} {f : Nat} (hf : f ≤ L.length) : (topL (oneT L) f).length = f := by
  rw [(top_one L f).1, pick_len]
  exact count_one hf
theorem top_one_mem {L : List Int} {f i : Nat} (h : i < L.length) : (i : Int) ∈ topL (oneT L) f ↔ rnk L.length (xsL L) i ≤ f := by
  rw [(top_one L f).1]
  unfold pickTo
  rw [List.mem_map]
  constructor
  · rintro ⟨j, hj, he⟩
    obtain rfl : j = i := by omega
    simpa using (List.mem_filter.1 hj).2
  · intro hr
    exact ⟨i, List.mem_filter.2 ⟨List.mem_range.2 h, by simpa using hr⟩, rfl⟩
theorem need_one {L : List Int} {f i : Nat} (h : i < L.length) {a : Int} (ha : IsNeed (oneT L) i f a) : 0 ≤ a ∧ (a = 0 ↔ rnk L.length (xsL L) i ≤ f) := by
  have h1 : (rnk L.length (xsL L) i : Int) = 1 + ndC (oneT L) i (loT (oneT L) i) := by
    have := rkHi_need (oneT L) i
    rw [(rk_one h).2] at this
    omega
  refine ⟨ha.1, ?_, ?_⟩
  · intro h0
    have h2 := ha.2.1
    rw [h0, Int.add_zero] at h2
    unfold NeedP at h2
    omega
  · intro hr
    refine Classical.byContradiction fun hne => ?_
    have h3 := ha.2.2 0 (Int.le_refl _) (by have := ha.1; omega)
    rw [Int.add_zero] at h3
    unfold NeedP at h3
    omega
end Go.Proofs.YtppncdbhebgcaaaGreatDoor
namespace Go.Proofs.YtppncdbhebgcaaaGreatDoor
open Go.RowKit

def HitC (L : List Int) : Ch := ⟨L.map fun x => mOne x x, List.replicate L.length 0, 0, 1⟩
section
variable {L : List Int} (hn : L.length ≤ 6) (hb : ∀ x ∈ L, 0 ≤ x ∧ x ≤ 40)
theorem hit_len : (HitC L).meters.length = L.length := by simp [HitC]
theorem hit_mt {i : Nat} (h : i < L.length) : mtC (HitC L) i = mOne (xsL L i) (xsL L i) := by
  rw [mtC_get (by rw [hit_len]; exact h)]
  simp [HitC, xsL, h]
theorem xsL_mem {i : Nat} (h : i < L.length) : xsL L i ∈ L := by
  unfold xsL
  rw [List.getD_eq_getElem?_getD, List.getElem?_eq_getElem h]
  exact List.getElem_mem h
include hn hb
theorem hit_valid : ValidC (HitC L) := by
  refine ⟨by rw [hit_len]; exact hn, by rw [hit_len]; simp [HitC], Int.le_refl _, by show (0 : Int) ≤ 1; omega, by show (1 : Int) ≤ 5; omega, fun x hx => ?_, fun M hM => ?_⟩
  · have : x = 0 := (List.mem_replicate.1 hx).2
    omega
  · obtain ⟨x, hx, rfl⟩ := List.mem_map.1 hM
    have := hb x hx
    exact ⟨mOne_valid (by omega) (by omega) (by omega), by show (1 : Int) ≤ ((1 : Nat) : Int); omega⟩
theorem hit_err : errC (HitC L) true = 0 := errC_ok (hit_valid hn hb) (by
  unfold someN
  rw [Bool.eq_false_iff]
  intro hc
  obtain ⟨i, hi, he⟩ := List.any_eq_true.1 hc
  rw [hit_len] at hi
  have hi' := List.mem_range.1 hi
  rw [hit_mt hi'] at he
  have := hb _ (xsL_mem hi')
  exact bP_iff.1 he (mOne_ask (by omega) (by omega) (by omega)))
theorem hit_tab : tabC (HitC L) = oneT L := by
  have _ := hn
  unfold tabC tabTo
  rw [hit_len]
  apply List.ext_getElem
  · simp [oneT]
  · intro i h1 h2
    have hi : i < L.length := by simpa using h1
    rw [List.getElem_map, List.getElem_range]
    unfold rowC
    rw [hit_mt hi]
    have := hb _ (xsL_mem hi)
    show (sumsA (mOne (xsL L i) (xsL L i)) 0 1).map (· + exC (HitC L) i) = _
    rw [mOne_one (by omega) (by omega)]
    have he : exC (HitC L) i = 0 := by
      rw [exC_get (by show i < (List.replicate L.length (0 : Int)).length; rw [List.length_replicate]; exact hi)]
      show (List.replicate L.length (0 : Int))[i]'_ = 0
      rw [List.getElem_replicate]
    rw [he]
    simp [oneT, xsL, hi]
theorem hit_orders : ordersA (HitC L) = 1 := by
  unfold ordersA
  rw [hit_err hn hb, hit_len, hit_tab hn hb, ords_one, okN_0 rfl]
  rfl
theorem hit_order : orderA (HitC L) = ordI L.length (xsL L) := by
  unfold orderA
  rw [hit_err hn hb, hit_tab hn hb, okL_0 rfl, oneT_len]
  exact ordI_congr fun i hi => rnk_congr (fun j hj => hi_one hj) hi
theorem hit_rank {i : Nat} (h : i < L.length) : rankLoA (HitC L) i = rnk L.length (xsL L) i ∧ rankHiA (HitC L) i = rnk L.length (xsL L) i ∧ errT (HitC L) i = 0 := by
  have he : errT (HitC L) i = 0 := by
    unfold errT
    rw [isTB_iff.2 ⟨by omega, by rw [hit_len]; omega⟩]
    exact hit_err hn hb
  unfold rankLoA rankHiA
  rw [he, hit_tab hn hb, okN_0 rfl, okN_0 rfl, Int.toNat_natCast, (rk_one h).1, (rk_one h).2]
  exact ⟨rfl, rfl, rfl⟩
theorem hit_top {f : Nat} (h1 : 1 ≤ f) (h2 : f ≤ L.length) : topA (HitC L) f = topL (oneT L) f ∧ mayA (HitC L) f = topL (oneT L) f ∧ errF (HitC L) f = 0 := by
  have he : errF (HitC L) f = 0 := by
    unfold errF
    rw [isFB_iff.2 ⟨by omega, by rw [hit_len]; omega⟩]
    exact hit_err hn hb
  unfold topA mayA
  rw [he, hit_tab hn hb, okL_0 rfl, okL_0 rfl]
  exact ⟨rfl, by rw [(top_one L f).1, (top_one L f).2], rfl⟩
theorem hit_need {i f : Nat} (h : i < L.length) (h1 : 1 ≤ f) (h2 : f ≤ L.length) : 0 ≤ needsA (HitC L) i f ∧ (needsA (HitC L) i f = 0 ↔ rnk L.length (xsL L) i ≤ f) ∧ errN (HitC L) i f = 0 := by
  have he : errN (HitC L) i f = 0 := by
    unfold errN
    rw [isTB_iff.2 ⟨by omega, by rw [hit_len]; omega⟩, isFB_iff.2 ⟨by omega, by rw [hit_len]; omega⟩]
    exact hit_err hn hb
  obtain ⟨a, ha, -⟩ := need_ex (T := oneT L) (i := i) (f := (f : Int)) 41 (need_top (by omega) fun j hj => by
    rw [oneT_len] at hj
    rw [hi_one hj, lo_one h]
    have e1 := hb _ (xsL_mem hj)
    have e2 := hb _ (xsL_mem h)
    omega)
  have hv : needsA (HitC L) i f = a := by
    unfold needsA
    rw [he, hit_tab hn hb, okN_0 rfl, Int.toNat_natCast, needV_eq ha]
  rw [hv]
  exact ⟨(need_one h ha).1, (need_one h ha).2, he⟩
end
end Go.Proofs.YtppncdbhebgcaaaGreatDoor
namespace Go.Proofs.YtppncdbhebgcaaaGreatDoor
open Go.RowKit

section
variable {P : Program} {ops : Array Oper} {Q : Exit → Act → World → Prop} {md : Region.Mode}
structure HInv3 (md : Region.Mode) (ops : Array Oper) (n k1 k2 : Nat) (R1 R2 R : World → World → Prop) (F : Nat → Value → Nat → Nat → World → Prop) (a0 : Act) (w0 : World) (l : List Oper) (listed : Array Bool) (a : Act) (w : World) : Prop where
  inv : HeadInv md ops n listed
  rel : R w0 w
  strong1 : listed.getD k1 false = false → R1 w0 w
  strong2 : listed.getD k2 false = false → R2 w0 w
  fr : ∃ (ys : Nat → Value) (lo hi : Nat → Nat), a = fill ys 0 l a0 ∧ (∀ j, listed.getD j false = true → F j (ys j) (lo j) (hi j) w ∧ w0.heap.size ≤ lo j ∧ lo j ≤ hi j ∧ hi j ≤ w.heap.size) ∧
    ∀ i j, listed.getD i false = true → listed.getD j false = true → i ≠ j → hi i ≤ lo j ∨ hi j ≤ lo i

/-- what is owed of operation i -/
def OpF3 (P : Program) (Q : Exit → Act → World → Prop) (k1 k2 : Nat) (C1 C2 : List Nat) (R1 R2 R : World → World → Prop) (St : Nat → World → World → Prop) (F : Nat → Value → Nat → Nat → World → Prop) (D : List (List Nat)) (l : List Oper) (n : Nat) (a0 : Act) (w0 : World) (i : Nat) : Prop :=
  ∀ (ys : Nat → Value) (lo hi : Nat → Nat) (w' : World), R w0 w' → (i = k1 ∨ C1.contains i = true → R1 w0 w') → (i = k2 ∨ C2.contains i = true → R2 w0 w') → Facts F ys lo hi w' (D.getD i []) →
    wpOp P l.toArray Q i (fun a' w'' => ∃ v, a' = (fill ys 0 (l.take n) a0).put ((l[i]?).bind (·.dst)) v ∧ F i v w'.heap.size w''.heap.size w'' ∧ St i w' w'') (fill ys 0 (l.take n) a0) w'
theorem wpAny_facts3 {n k1 k2 : Nat} {C1 C2 : List Nat} {R1 R2 R : World → World → Prop} {St : Nat → World → World → Prop} {F : Nat → Value → Nat → Nat → World → Prop} {D : List (List Nat)} {a0 : Act} {w0 : World} {l : List Oper}
    (hn : n ≤ l.length) (hd : dstB (l.take n) = true) (hup : upB md l.toArray = true) (ht : tailB md l.toArray n = true) (hD : ∀ i, i < n → ∀ j ∈ D.getD i [], j ∈ deps md l.toArray i)
    (hk1 : k1 < n) (hk2 : k2 < n) (hC1 : ∀ i, C1.contains i = true → i ∈ deps md l.toArray k1) (hC2 : ∀ i, C2.contains i = true → i ∈ deps md l.toArray k2) (hSR : ∀ i a b, St i a b → R a b) (hS1 : ∀ i a b, i ≠ k1 → St i a b → R1 a b) (hS2 : ∀ i a b, i ≠ k2 → St i a b → R2 a b) (hT1 : ∀ a b c, R1 a b → R1 b c → R1 a c) (hT2 : ∀ a b c, R2 a b → R2 b c → R2 a c) (hT : ∀ a b c, R a b → R b c → R a c) (hS : ∀ a b, R a b → a.heap.size ≤ b.heap.size) (hF : ∀ i j v s t w w', j ≠ i → St i w w' → F j v s t w → F j v s t w')
    (hops : ∀ i, i < n → OpF3 P Q k1 k2 C1 C2 R1 R2 R St F D l n a0 w0 i) 
    (g : Nat) (hdone : ∀ ys lo hi w', R w0 w' → (∀ j, j < n → F j (ys j) (lo j) (hi j) w') → Spans n lo hi w0.heap.size w'.heap.size → wpAny P md l.toArray Q g (firstB l.length n) (fill ys 0 (l.take n) a0) w') :
    ∀ (f : Nat) (listed : Array Bool) (a : Act) (w : World), ((List.range n).filter fun i => !listed.getD i true).length = f → HInv3 md l.toArray n k1 k2 R1 R2 R F a0 w0 (l.take n) listed a w →
      wpAny P md l.toArray Q (f + g) listed a w
  | 0, listed, a, w, hf, H => by
    obtain ⟨inv, hr, -, -, ys, lo, hi, rfl, hy, hap⟩ := H
    have hall : ∀ i, i < n → listed.getD i true = true := fun i hi => by
      cases hc : listed.getD i true with
      | true => rfl
      | false => have := count_lt (p := fun i => !listed.getD i true) ⟨i, hi, by simp [hc]⟩; omega
    have hsz : l.toArray.size = l.length := by simp
    have hll : listed = firstB l.length n := by
      apply Array.ext
      · simp [firstB, inv.size]
      · intro i h1 h2
        simp only [firstB, Array.getElem_map, Array.getElem_range]
        by_cases e : i < n
        · have := hall i e
          simp [h1] at this
          simp [e, this]
        · have := inv.tail i (by omega) (by rw [← inv.size]; exact h1)
          simp [h1] at this
          simp [e, this]
    have hb : ∀ j, j < n → listed.getD j false = true := fun j hj => by
      have := hall j hj
      have h2 : j < listed.size := by rw [inv.size]; omega
      simp [h2] at this ⊢
      exact this
    rw [Nat.zero_add, hll]
    exact hdone ys lo hi w hr (fun j hj => (hy j (hb j hj)).1) ⟨fun j hj => (hy j (hb j hj)).2, fun i j h1 h2 => hap i j (hb i h1) (hb j h2)⟩
  | f + 1, listed, a, w, hf, H => by
    obtain ⟨inv, hr, hst1, hst2, ys, lo, hi', rfl, hy, hap⟩ := H
    have hsz : l.toArray.size = l.length := by simp
    rw [show f + 1 + g = (f + g) + 1 by omega]
    have hex : ∃ i, i < n ∧ listed.getD i true = false := by
      have : 0 < ((List.range n).filter fun i => !listed.getD i true).length := by omega
      obtain ⟨i, hi⟩ := List.exists_mem_of_length_pos this
      rw [List.mem_filter, List.mem_range] at hi
      exact ⟨i, hi.1, by simpa using hi.2⟩
    refine ⟨fun h0 => ?_, fun i hi => ?_⟩
    · exfalso
      obtain ⟨i, hin, hiu⟩ := hex
      have hno : ∀ m i, i ≤ m → i < n → listed.getD i true = false → False := by
        intro m
        induction m with
        | zero =>
          intro i him hin hiu
          obtain rfl : i = 0 := by omega
          have hlt : 0 < l.toArray.size := by omega
          obtain ⟨o, ho⟩ : ∃ o, l.toArray[0]? = some o := ⟨_, Array.getElem?_eq_getElem hlt⟩
          have hu := List.all_eq_true.1 hup 0 (List.mem_range.2 hlt)
          have : (0 : Nat) ∈ Region.ready md l.toArray listed := mem_ready.2 ⟨hiu, o, ho, fun e he hb => by
            rw [ho] at hu
            have := Array.all_eq_true'.1 hu e he
            simp [hb] at this⟩
          rw [h0] at this; cases this
        | succ m ih =>
          intro i him hin hiu
          have hlt : i < l.toArray.size := by omega
          obtain ⟨o, ho⟩ : ∃ o, l.toArray[i]? = some o := ⟨_, Array.getElem?_eq_getElem hlt⟩
          have hu := List.all_eq_true.1 hup i (List.mem_range.2 hlt)
          have : i ∈ Region.ready md l.toArray listed := mem_ready.2 ⟨hiu, o, ho, fun e he hb => by
            rw [ho] at hu
            have h1 := Array.all_eq_true'.1 hu e he
            simp [hb] at h1
            cases hc : listed.getD e.on false with
            | true => rfl
            | false => exact (ih e.on (by omega) (by omega) (getD_in (by rw [inv.size]; omega) hc)).elim⟩
          rw [h0] at this; cases this
      exact hno i i (Nat.le_refl _) hin hiu
    · have hin : i < n := by
        rcases Nat.lt_or_ge i n with h | h
        · exact h
        · exfalso
          obtain ⟨hiu, oi, hoi, _⟩ := mem_ready.1 hi
          have hisz := (Array.getElem?_eq_some_iff.1 hoi).1
          simp only [tailB, Bool.or_eq_true, decide_eq_true_eq, Bool.and_eq_true] at ht
          rcases ht with ht | ⟨⟨ht1, ht2⟩, ht3⟩
          · omega
          · obtain ⟨k, hk1, hk2⟩ := hex
            exact absurd hi (tail_waits ht2 ht3 ht1 inv _ k rfl hk1 hk2 i h)
      obtain ⟨hiu, oi, hoi, hall⟩ := mem_ready.1 hi
      have hd1 := depsB_ok (md := md) hoi hall inv.closed i [] (fun k hk => by cases hk)
      have hfac : Facts F ys lo hi' w (D.getD i []) := Facts.of (fun j hj => (hy j (hd1 j (hD i hin j hj))).1)
      have hstr1 : i = k1 ∨ C1.contains i = true → R1 w0 w := fun hc' => by
        refine hst1 ?_
        rcases hc' with hc' | hc
        · subst hc'
          have h2 : i < listed.size := by rw [inv.size]; omega
          simp [h2] at hiu ⊢
          exact hiu
        cases hl : listed.getD k1 false with
        | false => rfl
        | true =>
          exfalso
          have hksz : k1 < l.toArray.size := by omega
          obtain ⟨ok, hok⟩ : ∃ o, l.toArray[k1]? = some o := ⟨_, Array.getElem?_eq_getElem hksz⟩
          have hd2 := depsB_ok (md := md) hok (inv.closed k1 ok hok hl) inv.closed k1 [] (fun k hk => by cases hk)
          have h1 := hd2 i (hC1 i hc)
          have h2 : i < listed.size := by rw [inv.size]; omega
          simp [h2] at h1 hiu
          rw [h1] at hiu; cases hiu
      have hstr2 : i = k2 ∨ C2.contains i = true → R2 w0 w := fun hc' => by
        refine hst2 ?_
        rcases hc' with hc' | hc
        · subst hc'
          have h2 : i < listed.size := by rw [inv.size]; omega
          simp [h2] at hiu ⊢
          exact hiu
        cases hl : listed.getD k2 false with
        | false => rfl
        | true =>
          exfalso
          have hksz : k2 < l.toArray.size := by omega
          obtain ⟨ok, hok⟩ : ∃ o, l.toArray[k2]? = some o := ⟨_, Array.getElem?_eq_getElem hksz⟩
          have hd2 := depsB_ok (md := md) hok (inv.closed k2 ok hok hl) inv.closed k2 [] (fun k hk => by cases hk)
          have h1 := hd2 i (hC2 i hc)
          have h2 : i < listed.size := by rw [inv.size]; omega
          simp [h2] at h1 hiu
          rw [h1] at hiu; cases hiu
      refine wpOp_mono ?_ (hops i hin ys lo hi' w hr hstr1 hstr2 hfac)
      rintro a' w' ⟨v, rfl, hv, hst⟩
      have hrw : R w w' := hSR _ _ _ hst
      have hli : l[i]? = some oi := by simpa using hoi
      have hlt : (l.take n)[i]? = some oi := by rw [List.getElem?_take_of_lt hin]; exact hli
      have hs1 := hS _ _ hr
      have hs2 := hS _ _ hrw
      refine wpAny_facts3 hn hd hup ht hD hk1 hk2 hC1 hC2 hSR hS1 hS2 hT1 hT2 hT hS hF hops g hdone f _ _ _ ?_ ⟨inv.set hi hin, hT _ _ _ hr hrw, (fun hl => by
        by_cases e : i = k1
        · exfalso
          subst e
          have h1 := getD_set_true' listed i
          have h2 : i < listed.size := by rw [inv.size]; omega
          simp [h2] at hl
        · rw [getD_set_ne false e] at hl
          exact hT1 _ _ _ (hst1 hl) (hS1 _ _ _ e hst)), (fun hl => by
        by_cases e : i = k2
        · exfalso
          subst e
          have h1 := getD_set_true' listed i
          have h2 : i < listed.size := by rw [inv.size]; omega
          simp [h2] at hl
        · rw [getD_set_ne false e] at hl
          exact hT2 _ _ _ (hst2 hl) (hS2 _ _ _ e hst)), upd ys i v, updI' lo i w.heap.size, updI' hi' i w'.heap.size, ?_, fun j hj => ?_, fun j k hj hk hjk => ?_⟩
      · have := count_set (n := n) hin (by rw [inv.size]; omega) hiu
        omega
      · rw [hli]
        have := fill_upd (ys := ys) v (l.take n) 0 a0 i oi hd hlt
        rw [Nat.zero_add] at this
        exact this
      · unfold upd updI'
        by_cases e : j = i
        · subst e; rw [if_pos rfl, if_pos rfl, if_pos rfl]; exact ⟨hv, hs1, hs2, Nat.le_refl _⟩
        · rw [if_neg e, if_neg e, if_neg e]
          rw [getD_set_ne false (Ne.symm e)] at hj
          obtain ⟨q1, q2, q3, q4⟩ := hy j hj
          refine ⟨?_, q2, q3, Nat.le_trans q4 hs2⟩
          exact hF _ _ _ _ _ _ _ e hst q1
      · unfold updI'
        by_cases e : j = i
        · subst e
          have e2 : ¬k = j := fun e2 => hjk e2.symm
          rw [if_pos rfl, if_pos rfl, if_neg e2, if_neg e2]
          rw [getD_set_ne false (Ne.symm e2)] at hk
          exact Or.inr (hy k hk).2.2.2
        · rw [if_neg e, if_neg e]
          rw [getD_set_ne false (Ne.symm e)] at hj
          by_cases e2 : k = i
          · subst e2
            rw [if_pos rfl, if_pos rfl]
            exact Or.inl (hy j hj).2.2.2
          · rw [if_neg e2, if_neg e2]
            rw [getD_set_ne false (Ne.symm e2)] at hk
            exact hap j k hj hk hjk

theorem wp_region_facts3 {id : Nat} {Q : Exit → Act → World → Prop} {a : Act} {w : World} {l : List Oper} (n : Nat) (D : List (List Nat)) (J : List Nat) (k1 k2 : Nat) (C1 C2 : List Nat) (R1 R2 R : World → World → Prop) (St : Nat → World → World → Prop) (F : Nat → Value → Nat → Nat → World → Prop) (hm : P.follows .mixedOrders = true)
    (hB : factsB .any l n D J = true) (hC1 : (decide (k1 < n) && C1.all (fun i => (deps .any l.toArray k1).contains i)) = true) (hC2 : (decide (k2 < n) && C2.all (fun i => (deps .any l.toArray k2).contains i)) = true) (hSR : ∀ i a b, St i a b → R a b) (hS1 : ∀ i a b, i ≠ k1 → St i a b → R1 a b) (hS2 : ∀ i a b, i ≠ k2 → St i a b → R2 a b) (hT1 : ∀ a b c, R1 a b → R1 b c → R1 a c) (hT2 : ∀ a b c, R2 a b → R2 b c → R2 a c)(hR1 : ∀ w, R1 w w) (hR2 : ∀ w, R2 w w) (hR : ∀ w, R w w) (hT : ∀ a b c, R a b → R b c → R a c) (hS : ∀ a b, R a b → a.heap.size ≤ b.heap.size) (hF : ∀ i j v s t w w', j ≠ i → St i w w' → F j v s t w → F j v s t w')
    (hops : AllOps (OpF3 P Q k1 k2 C1 C2 R1 R2 R St F D l n a w.drew) 0 n)
    (hdone : ∀ ys lo hi w', R w.drew w' → Facts F ys lo hi w' J → Spans n lo hi w.heap.size w'.heap.size → wpList P l.toArray Q (l.drop n) (fill ys 0 (l.take n) a) w') : (Code.region id l.toArray true).wp P Q a w := by
  simp only [factsB, Bool.and_eq_true, decide_eq_true_eq] at hB
  obtain ⟨⟨⟨⟨⟨⟨h1, h2⟩, h3⟩, h4⟩, h5⟩, h6⟩, h7⟩ := hB
  refine wp_region_any hm ?_
  have hsz : l.toArray.size = l.length := by simp
  simp only [Bool.and_eq_true, decide_eq_true_eq] at hC1 hC2
  have key := wpAny_facts3 (P := P) (Q := Q) (md := .any) (n := n) (k1 := k1) (k2 := k2) (C1 := C1) (C2 := C2) (R1 := R1) (R2 := R2) (R := R) (St := St) (F := F) (D := D) (a0 := a) (w0 := w.drew) (l := l) h1 h2 h3 h4
    (fun i hi j hj => by have := List.all_eq_true.1 (List.all_eq_true.1 h6 i (List.mem_range.2 hi)) j hj; simpa using this) hC1.1 hC2.1 (fun i hi => by have := List.all_eq_true.1 hC1.2 i (by simpa using hi); simpa using this) (fun i hi => by have := List.all_eq_true.1 hC2.2 i (by simpa using hi); simpa using this) hSR hS1 hS2 hT1 hT2 hT hS hF (fun i hi => AllOps.of hops i (Nat.zero_le _) (by omega)) (l.length - n)
    (fun ys lo hi w' hr hf hsp => by
      have hdl : (l.drop n).length = l.length - n := by simp
      have := wpAny_of_seq (md := .any) (Q' := Q) (P := P) (ops := l.toArray) (l.drop n) n (firstB l.length n) (fill ys 0 (l.take n) a) w' (fun j => by simp [List.getElem?_drop]) (by rw [hdl]; exact h5) (hdone ys lo hi w' hr (Facts.of (fun j hj => hf j (by simpa using List.all_eq_true.1 h7 j hj))) hsp)
      rw [hdl] at this
      exact this)
    n (Array.replicate l.length false) a w.drew ?_ ?_
  · have e : n + (l.length - n) = l.toArray.size := by simp; omega
    rw [e] at key
    rw [hsz]
    rw [hsz] at key
    exact key
  · have : ((List.range n).filter fun i => !(Array.replicate l.length false).getD i true) = List.range n := List.filter_eq_self.2 (fun i hi => by
      have := List.mem_range.1 hi
      have h : i < l.length := by omega
      simp [h])
    rw [this, List.length_range]
  · refine ⟨⟨by simp, fun j oj _ hl => (by rw [getD_replicate_false] at hl; cases hl), fun t _ ht => getD_in (by simpa using ht) (getD_replicate_false _ _)⟩, hR _, fun _ => hR1 _, fun _ => hR2 _, ys0 (l.take n) a, fun _ => 0, fun _ => 0, (fill_same _ 0 a (fun j o d hj hd => ?_)).symm, fun j hj => (by rw [getD_replicate_false] at hj; cases hj), fun j _ hj => (by rw [getD_replicate_false] at hj; cases hj)⟩
    rw [Nat.zero_add]
    simp only [ys0, hj, Option.bind_some, hd]

theorem opF3_step {k1 k2 : Nat} {C1 C2 : List Nat} {R1 R2 R : World → World → Prop} {St : Nat → World → World → Prop} {F : Nat → Value → Nat → Nat → World → Prop} {D : List (List Nat)} {l : List Oper} {n i : Nat} {a0 : Act} {w0 : World}
    (h : ∀ (ys : Nat → Value) (lo hi : Nat → Nat) (w' : World), R w0 w' → (i = k1 ∨ C1.contains i = true → R1 w0 w') → (i = k2 ∨ C2.contains i = true → R2 w0 w') → Facts F ys lo hi w' (D.getD i []) → ∀ K : Act → World → Prop,
      Hid (∀ v w'', F i v w'.heap.size w''.heap.size w'' → St i w' w'' → K ((fill ys 0 (l.take n) a0).put (dstO l[i]?) v) w'') →
      OpB P Q l.toArray (fill ys 0 (l.take n) a0) w' K l[i]?) : OpF3 P Q k1 k2 C1 C2 R1 R2 R St F D l n a0 w0 i := by
  intro ys lo hi w' hr hs hs2 hf
  cases ho : l[i]? with
  | none =>
    obtain ⟨o, h1, -⟩ := (h ys lo hi w' hr hs hs2 hf (fun _ _ => True) (Lib.hid (fun _ _ _ _ => trivial))).out
    rw [ho] at h1; cases h1
  | some o =>
    refine wpOp_step (o := o) (by simpa using ho) (fun K hK => ?_)
    obtain ⟨o', h1, h2⟩ := (h ys lo hi w' hr hs hs2 hf K (Lib.hid (fun v w'' h1 h2 => by rw [ho]; exact hK _ _ ⟨v, rfl, h1, h2⟩))).out
    rw [ho] at h1; cases h1
    exact h2
end
end Go.Proofs.YtppncdbhebgcaaaGreatDoor
namespace Go.Proofs.YtppncdbhebgcaaaGreatDoor
open Go.RowKit

/-- a world that grew, and whose two rows may have grown -/
structure Gr2 (r1 r2 : Option Nat) (w w' : World) : Prop where
  os : w'.os = w.os
  tape : w'.tape = w.tape
  output : w'.output = w.output
  size : w.heap.size ≤ w'.heap.size
  block : ∀ k, k < w.heap.size → some k ≠ r1 → some k ≠ r2 → w'.heap[k]? = w.heap[k]?
theorem Gr2.refl (r1 r2 : Option Nat) (w : World) : Gr2 r1 r2 w w := ⟨rfl, rfl, rfl, Nat.le_refl _, fun _ _ _ _ => rfl⟩
theorem Gr2.trans {r1 r2 : Option Nat} {a b c : World} (h : Gr2 r1 r2 a b) (h' : Gr2 r1 r2 b c) : Gr2 r1 r2 a c :=
  ⟨h'.os.trans h.os, h'.tape.trans h.tape, h'.output.trans h.output, Nat.le_trans h.size h'.size, fun k hk h1 h2 => (h'.block k (Nat.lt_of_lt_of_le hk h.size) h1 h2).trans (h.block k hk h1 h2)⟩
theorem Gr2.left {r1 r2 : Option Nat} {a b : World} (h : GrB r1 a b) : Gr2 r1 r2 a b := ⟨h.os, h.tape, h.output, h.size, fun k hk h1 _ => h.block k hk h1⟩
theorem Gr2.right {r1 r2 : Option Nat} {a b : World} (h : GrB r2 a b) : Gr2 r1 r2 a b := ⟨h.os, h.tape, h.output, h.size, fun k hk _ h2 => h.block k hk h2⟩
/-- the step of an operation: k1 and k2 let a row grow -/
def StH (k1 k2 : Nat) (r1 r2 : Option Nat) (i : Nat) (w w' : World) : Prop := if i = k1 then GrB r1 w w' else if i = k2 then GrB r2 w w' else Ext w w'
section
variable {k1 k2 : Nat} {r1 r2 : Option Nat}
theorem StH.all (i : Nat) (a b : World) (h : StH k1 k2 r1 r2 i a b) : Gr2 r1 r2 a b := by
  unfold StH at h
  split at h
  · exact Gr2.left h
  · split at h
    · exact Gr2.right h
    · exact Gr2.left (GrB.ext h)
theorem StH.one (i : Nat) (a b : World) (hi : i ≠ k1) (h : StH k1 k2 r1 r2 i a b) : GrB r2 a b := by
  unfold StH at h
  rw [if_neg hi] at h
  split at h
  · exact h
  · exact GrB.ext h
theorem StH.two (i : Nat) (a b : World) (hi : i ≠ k2) (h : StH k1 k2 r1 r2 i a b) : GrB r1 a b := by
  unfold StH at h
  split at h
  · exact h
  · first | exact GrB.ext h | (rw [if_neg hi] at h; exact GrB.ext h)
end
end Go.Proofs.YtppncdbhebgcaaaGreatDoor
