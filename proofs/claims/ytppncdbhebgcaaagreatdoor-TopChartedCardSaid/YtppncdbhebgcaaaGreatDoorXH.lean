
/- Two meters whose truths are alike answer alike. The walks of the reference's small functions. The walks of the reference's Check, Far, ready. The walk of Copy: a meter in memory of its own. The walk of Example. -/
import Derived.Test.YtppncdbhebgcaaaGreatDoorXG
namespace Go.Proofs.YtppncdbhebgcaaaGreatDoor
open Go.RowKit

theorem bits_ext {A B : Nat} (h : ∀ n, n < 1536 → A.testBit n = B.testBit n) : bitsN A = bitsN B := by
  unfold bitsN
  exact List.filter_congr fun n hn => h n (List.mem_range.1 hn)
theorem sumsL_ext {M N : Mt} (hM : ValidM M) (hN : ValidM N) {a b c d : Nat} (hab : a ≤ b) (hb : b ≤ M.weeks.length) (hcd : c ≤ d) (hd : d ≤ N.weeks.length)
    (h : ∀ x, PlaysP M a b x ↔ PlaysP N c d x) : sumsL M a b = sumsL N c d := by
  unfold sumsL
  refine bits_ext fun n _ => Bool.eq_iff_iff.2 ?_
  rw [between_law hM hab hb, between_law hN hcd hd]
  exact h n
theorem showsL_ext {M N : Mt} (hM : ValidM M) (hN : ValidM N) {a b : Nat} (ha : a ≤ M.weeks.length) (hb : b ≤ N.weeks.length)
    (h : ∀ x, ShownP M a x ↔ ShownP N b x) : showsL M a = showsL N b := by
  unfold showsL
  refine List.filter_congr fun s hs => ?_
  have := List.mem_range.1 hs
  refine decide_eq_decide.2 ?_
  rw [shows_iff hM (by omega) (by omega) ha, shows_iff hN (by omega) (by omega) hb]
  exact h s
/-- The truths of one are the truths of the other. -/
structure Iso (M N : Mt) (T U : (Nat → Int) → (Nat → Int)) : Prop where
  rt : To M N T
  lf : To N M U
  wrong : M.wrong = N.wrong
section
variable {M N : Mt} {T U : (Nat → Int) → (Nat → Int)}
theorem Iso.least (h : Iso M N T U) (hM : ValidM M) (hN : ValidM N) : leastN M = leastN N := Int.le_antisymm (least_to hN hM h.lf) (least_to hM hN h.rt)
theorem Iso.ask (h : Iso M N T U) (hM : ValidM M) (hN : ValidM N) : askV M true = askV N true := by rw [askV_t hM, askV_t hN, h.least hM hN, h.wrong]
theorem Iso.tru (h : Iso M N T U) {D : Nat → Int} (hD : Tru M D) : Tru N (T D) := h.rt.tru h.wrong hD
theorem Iso.untru (h : Iso M N T U) {E : Nat → Int} (hE : Tru N E) : Tru M (U E) := h.lf.tru h.wrong.symm hE
theorem Iso.plays (h : Iso M N T U) {a b c d : Nat} {k : Int} (h1 : ∀ D, T D d - T D c = D b - D a + k) (h2 : ∀ E, U E b - U E a + k = E d - E c) (x : Int) : PlaysP M a b x ↔ PlaysP N c d (x + k) := by
  constructor
  · rintro ⟨D, hD, rfl⟩
    exact ⟨T D, h.tru hD, h1 D⟩
  · rintro ⟨E, hE, e⟩
    exact ⟨U E, h.untru hE, by have := h2 E; omega⟩
theorem Iso.sums (h : Iso M N T U) (hM : ValidM M) (hN : ValidM N) {a b c d : Nat} (hab : a ≤ b) (hb : b ≤ M.weeks.length) (hcd : c ≤ d) (hd : d ≤ N.weeks.length)
    (h1 : ∀ D, T D d - T D c = D b - D a) (h2 : ∀ E, U E b - U E a = E d - E c) : sumsL M a b = sumsL N c d :=
  sumsL_ext hM hN hab hb hcd hd fun x => by
    have := h.plays (a := a) (b := b) (c := c) (d := d) (k := 0) (fun D => by have := h1 D; omega) (fun E => by have := h2 E; omega) x
    rwa [Int.add_zero] at this
theorem Iso.shown (h : Iso M N T U) {a b : Nat} {f g : Int → Int} (h1 : ∀ D, T D b % 100 = f (D a % 100)) (h2 : ∀ E, U E a % 100 = g (E b % 100)) (x : Int) :
    (ShownP M a x → ShownP N b (f x)) ∧ (0 ≤ x → x < 100 → ShownP N b x → ShownP M a (g x)) := by
  constructor
  · rintro ⟨D, hD, rfl⟩
    exact ⟨T D, h.tru hD, h1 D⟩
  · rintro - - ⟨E, hE, rfl⟩
    exact ⟨U E, h.untru hE, h2 E⟩
theorem Iso.shows (h : Iso M N T U) (hM : ValidM M) (hN : ValidM N) {a b : Nat} (ha : a ≤ M.weeks.length) (hb : b ≤ N.weeks.length)
    (h1 : ∀ D, T D b % 100 = D a % 100) (h2 : ∀ E, U E a % 100 = E b % 100) : showsL M a = showsL N b :=
  showsL_ext hM hN ha hb fun x => ⟨fun ⟨D, hD, e⟩ => ⟨T D, h.tru hD, by rw [h1, e]⟩, fun ⟨E, hE, e⟩ => ⟨U E, h.untru hE, by rw [h2, e]⟩⟩
/-- how many readings are right or wrong in some truth -/
theorem Iso.can (h : Iso M N T U) (hM : ValidM M) (hN : ValidM N) {r s : Int × Int} (hr : r ∈ M.reads) (hs : s ∈ N.reads) (right : Bool)
    (h1 : ∀ D, (T D s.1.toNat % 100 = s.2) ↔ (D r.1.toNat % 100 = r.2)) (h2 : ∀ E, (U E r.1.toNat % 100 = r.2) ↔ (E s.1.toNat % 100 = s.2)) : canF M r right = canF N s right := by
  rw [can_eq hM hr, can_eq hN hs]
  refine Bool.eq_iff_iff.2 ?_
  rw [can_iff hM hr, can_iff hN hs]
  constructor
  · rintro ⟨D, hD, e⟩
    exact ⟨T D, h.tru hD, by rw [← e]; exact decide_eq_decide.2 (h1 D)⟩
  · rintro ⟨E, hE, e⟩
    exact ⟨U E, h.untru hE, by rw [← e]; exact decide_eq_decide.2 (h2 E)⟩
end
end Go.Proofs.YtppncdbhebgcaaaGreatDoor
namespace Go.Proofs.YtppncdbhebgcaaaGreatDoor
open Go.RowKit

theorem winB_t {n lo hi : Int} (h1 : lo ≤ n) (h2 : n ≤ hi) : winB n lo hi = true := by unfold winB; simp [h1, h2]
theorem winB_l {n lo hi : Int} (h1 : ¬lo ≤ n) : winB n lo hi = false := by unfold winB; simp [h1]
theorem winB_r {n lo hi : Int} (h1 : ¬n ≤ hi) : winB n lo hi = false := by unfold winB; simp [h1]
theorem winB_iff {n lo hi : Int} : winB n lo hi = true ↔ lo ≤ n ∧ n ≤ hi := by unfold winB; simp

set_option maxHeartbeats 400000 in
theorem Within02 (n lo hi : Int) (w : World) :
    Calls Tryz.prog 43 #[.int .i64 n, .int .i64 lo, .int .i64 hi] w (RetE (.bool (winB n lo hi)) w) := by
  go_enter Tryz.func43, Tryz.ntmps43
  by_cases h1 : lo ≤ n
  · by_cases h2 : n ≤ hi
    · have H := Lib.hid (winB_t h1 h2)
      go_wp2
      go_ret
      exact RetE.fin (Ext.refl _) (by rw [H.out]; rfl)
    · have H := Lib.hid (winB_r (lo := lo) h2)
      go_wp2
      go_ret
      exact RetE.fin (Ext.refl _) (by rw [H.out]; rfl)
  · have H := Lib.hid (winB_l (hi := hi) h1)
    go_wp2
    go_ret
    exact RetE.fin (Ext.refl _) (by rw [H.out]; rfl)

theorem within04 (n lo hi : Int) (w : World) :
    Calls Tryz.prog 58 #[.int .i64 n, .int .i64 lo, .int .i64 hi] w (RetE (.bool (winB n lo hi)) w) := by
  have HW := Lib.hid (Within02 n lo hi w)
  go_enter Tryz.func58, Tryz.ntmps58
  go_wp2_with (go_at_call 43; refine HW.out.mono ?_; rintro e w1 ⟨rfl, hE1⟩; have HE1 := Lib.hid hE1; clear hE1)
  go_ret
  exact RetE.fin HE1.out rfl

theorem IsAfter04 (M : Mt) (n : Int) (v : Value) (w : World) (hv : MtV w v M) :
    Calls Tryz.prog 59 #[v, .int .i64 n] w (RetE (.bool (winB n 0 M.weeks.length)) w) := by
  obtain ⟨p, c, qq, d, rfl, hp, hq⟩ := hv
  clear hp hq
  go_enter Tryz.func59, Tryz.ntmps59
  go_upto_region 1 with (fail)
  obtain ⟨s0, hs0'⟩ : ∃ s0, s0 = w.heap.size := ⟨_, rfl⟩
  generalize hW : World.alloc _ _ = W
  have m0 : W.heap[s0]? = some (.cells #[.slice p M.weeks.length c, .slice qq M.reads.length d, .int .i64 M.wrong] 55) := by rw [hs0', ← hW]; exact heap_new _ _
  have hE : Ext w W := by rw [← hW]; exact (by repeat (first | exact Ext.refl _ | assumption | refine Ext.drewN ?_ _ | refine Ext.drew ?_ | refine Ext.alloc ?_ _))
  rw [← hs0']
  have m00 : W.cell? ⟨s0, 0, none⟩ = some (.slice p M.weeks.length c) := cell_of_heap m0 0
  have HE := Lib.hid hE
  clear hW m0 hE hs0'
  have HW := Lib.hid (within04 n 0 M.weeks.length W)
  go_wp2_with (go_at_call 58; refine HW.out.mono ?_; rintro e w1 ⟨rfl, hE1⟩; have HE1 := Lib.hid hE1; clear hE1)
  go_ret
  exact RetE.fin (HE.out.trans HE1.out) rfl

theorem areB_ref (f t n : Int) : areB f t n = (winB f 0 n && (winB t 0 n && decide (f ≤ t))) := by
  unfold areB winB
  refine Bool.eq_iff_iff.2 ?_
  simp only [Bool.and_eq_true, decide_eq_true_eq]
  omega

theorem AreWeeks04 (M : Mt) (f t : Int) (v : Value) (w : World) (hv : MtV w v M) :
    Calls Tryz.prog 30 #[v, .int .i64 f, .int .i64 t] w (RetE (.bool (areB f t M.weeks.length)) w) := by
  have HV := Lib.hid hv
  obtain ⟨p, c, qq, d, rfl, hp, hq⟩ := hv
  clear hp hq
  have har := areB_ref f t M.weeks.length
  go_enter Tryz.func30, Tryz.ntmps30
  go_upto_region 1 with (fail)
  obtain ⟨s0, hs0'⟩ : ∃ s0, s0 = w.heap.size := ⟨_, rfl⟩
  generalize hW : World.alloc _ _ = W
  have m0 : W.heap[s0]? = some (.cells #[.slice p M.weeks.length c, .slice qq M.reads.length d, .int .i64 M.wrong] 55) := by rw [hs0', ← hW]; exact heap_new _ _
  have hE : Ext w W := by rw [← hW]; exact (by repeat (first | exact Ext.refl _ | assumption | refine Ext.drewN ?_ _ | refine Ext.drew ?_ | refine Ext.alloc ?_ _))
  rw [← hs0']
  have m00 := ExtW.cell (v := .slice p M.weeks.length c) (cell_of_heap m0 0)
  have m01 := ExtW.cell (v := .slice qq M.reads.length d) (cell_of_heap m0 1)
  have m02 := ExtW.cell (v := .int .i64 M.wrong) (cell_of_heap m0 2)
  have HE := Lib.hid hE
  have HAK := Lib.hid (fun n (x : ExtW W) => ExtW.call (IsAfter04 M n _ x.w (HV.out.ext (hE.trans x.h))))
  obtain ⟨x0, hx0⟩ := ExtW.of (Ext.refl W)
  clear hW m0 hE hs0'
  conv => arg 5; rw [hx0]
  clear hx0
  obtain ⟨b1, hb1⟩ : ∃ b, winB f 0 M.weeks.length = b := ⟨_, rfl⟩
  obtain ⟨b2, hb2⟩ : ∃ b, winB t 0 M.weeks.length = b := ⟨_, rfl⟩
  have HA1 := Lib.hid (hb1 ▸ HAK.out f)
  have HA2 := Lib.hid (hb2 ▸ HAK.out t)
  rw [hb1, hb2] at har
  have HAR := Lib.hid har
  clear hb1 hb2 har HAK
  cases b1
  · go_wp2_with (go_at_call 59; refine (HA1.out _).mono ?_; rintro e w1 ⟨rfl, x1, rfl⟩)
    go_ret
    exact RetE.fin (HE.out.trans x1.h) (by rw [HAR.out]; rfl)
  · cases b2
    · go_wp2_with (go_at_call 59; first | (with_reducible refine (HA1.out _).mono ?_; rintro e w1 ⟨rfl, x1, rfl⟩) | (with_reducible refine (HA2.out _).mono ?_; rintro e w1 ⟨rfl, x2, rfl⟩))
      go_ret
      exact RetE.fin (HE.out.trans x2.h) (by rw [HAR.out]; rfl)
    · go_wp2_with (go_at_call 59; first | (with_reducible refine (HA1.out _).mono ?_; rintro e w1 ⟨rfl, x1, rfl⟩) | (with_reducible refine (HA2.out _).mono ?_; rintro e w1 ⟨rfl, x2, rfl⟩))
      go_ret
      exact RetE.fin (HE.out.trans x2.h) (by rw [HAR.out]; simp)

end Go.Proofs.YtppncdbhebgcaaaGreatDoor
namespace Go.Proofs.YtppncdbhebgcaaaGreatDoor
open Go.RowKit

theorem rwIn {W : World} {n lo hi : Int} (h : lo ≤ n ∧ n ≤ hi) (y : ExtW W) : Calls Tryz.prog 58 #[.int .i64 n, .int .i64 lo, .int .i64 hi] y.w fun e w'' => e = .returned (.bool true) ∧ ∃ z : ExtW W, w'' = z.w :=
  ExtW.call (by have := within04 n lo hi y.w; rwa [winB_t h.1 h.2] at this)
theorem rwOut {W : World} {n lo hi : Int} (h : ¬(lo ≤ n ∧ n ≤ hi)) (y : ExtW W) : Calls Tryz.prog 58 #[.int .i64 n, .int .i64 lo, .int .i64 hi] y.w fun e w'' => e = .returned (.bool false) ∧ ∃ z : ExtW W, w'' = z.w :=
  ExtW.call (by have := within04 n lo hi y.w; rwa [Bool.eq_false_iff.2 (fun e => h (winB_iff.1 e))] at this)
theorem raIn {W : World} {M : Mt} {v : Value} {n : Int} (hv : MtV W v M) (h : 0 ≤ n ∧ n ≤ M.weeks.length) (y : ExtW W) : Calls Tryz.prog 59 #[v, .int .i64 n] y.w fun e w'' => e = .returned (.bool true) ∧ ∃ z : ExtW W, w'' = z.w :=
  ExtW.call (by have := IsAfter04 M n v y.w (hv.ext y.h); rwa [winB_t h.1 h.2] at this)
theorem raOut {W : World} {M : Mt} {v : Value} {n : Int} (hv : MtV W v M) (h : ¬(0 ≤ n ∧ n ≤ M.weeks.length)) (y : ExtW W) : Calls Tryz.prog 59 #[v, .int .i64 n] y.w fun e w'' => e = .returned (.bool false) ∧ ∃ z : ExtW W, w'' = z.w :=
  ExtW.call (by have := IsAfter04 M n v y.w (hv.ext y.h); rwa [Bool.eq_false_iff.2 (fun e => h (winB_iff.1 e))] at this)

theorem PairsAt.at2 {w : World} {p : Option Addr} {l : List (Int × Int)} (h : PairsAt w p l) (i : Nat) (hi : i < l.length) :
    ∃ b o, p = some ⟨b, o, none⟩ ∧ w.cell? ⟨b, o + i * 2, none⟩ = some (.int .i64 l[i].1) ∧ w.cell? ⟨b, o + i * 2 + 1, none⟩ = some (.int .i64 l[i].2) := h i hi

set_option maxRecDepth 20000 in
set_option maxHeartbeats 1600000 in
theorem rCheck04 (M : Mt) (v : Value) (w : World) (hv : MtV w v M) (h1 : M.weeks.length ≤ 1000) (h2 : M.reads.length ≤ 1000) :
    Calls Tryz.prog 29 #[v] w (RetE (.int .i64 (chkM M)) w) := by
  have HV := Lib.hid hv
  obtain ⟨p, c, qq, d, rfl, hp, hq⟩ := hv
  go_enter Tryz.func29, Tryz.ntmps29
  go_upto_region 1 with (fail)
  obtain ⟨s0, hs0'⟩ : ∃ s0, s0 = w.heap.size := ⟨_, rfl⟩
  generalize hW : World.alloc _ _ = W
  have m0 : W.heap[s0]? = some (.cells #[.slice p M.weeks.length c, .slice qq M.reads.length d, .int .i64 M.wrong] 55) := by rw [hs0', ← hW]; exact heap_new _ _
  have hE : Ext w W := by rw [← hW]; exact (by repeat (first | exact Ext.refl _ | assumption | refine Ext.drewN ?_ _ | refine Ext.drew ?_ | refine Ext.alloc ?_ _))
  rw [← hs0']
  have q0 := ExtW.cell (v := .slice p M.weeks.length c) (cell_of_heap m0 0)
  have q1 := ExtW.cell (v := .slice qq M.reads.length d) (cell_of_heap m0 1)
  have q2 := ExtW.cell (v := .int .i64 M.wrong) (cell_of_heap m0 2)
  have HE := Lib.hid hE
  have HVW := Lib.hid (HV.out.ext hE)
  have HP := Lib.hid (hp.ext hE)
  have HQ := Lib.hid (hq.ext hE)
  obtain ⟨x0, hx0⟩ := ExtW.of (Ext.refl W)
  clear hW m0 hE hs0' hp hq
  conv => arg 5; rw [hx0]
  clear hx0
  by_cases hA : M.weeks.length ≤ 5
  case neg =>
    have HC := Lib.hid (chkM_f (M := M) fun h => hA h.nw)
    have hA' : 5 < (M.weeks.length : Int) := by omega
    clear hA
    go_wp2
    go_ret
    exact RetE.fin (HE.out.trans x0.h) (by rw [HC.out]; rfl)
  have hA' : ¬5 < (M.weeks.length : Int) := by omega
  by_cases hB : M.reads.length ≤ 7
  case neg =>
    have HC := Lib.hid (chkM_f (M := M) fun h => hB h.nr)
    have hB' : 7 < (M.reads.length : Int) := by omega
    clear hB
    go_wp2
    go_ret
    exact RetE.fin (HE.out.trans x0.h) (by rw [HC.out]; rfl)
  have hB' : ¬7 < (M.reads.length : Int) := by omega
  by_cases hC : 0 ≤ M.wrong ∧ M.wrong ≤ 7
  case neg =>
    have HC := Lib.hid (chkM_f (M := M) fun h => hC ⟨h.wr0, h.wr7⟩)
    have HWC := Lib.hid (rwOut (W := W) hC)
    clear hC
    go_wp2_with (go_at_call 58; refine (HWC.out _).mono ?_; rintro e w1 ⟨rfl, x1, rfl⟩)
    go_ret
    exact RetE.fin (HE.out.trans x1.h) (by rw [HC.out]; rfl)
  have HWC := Lib.hid (rwIn (W := W) hC)
  have HCC := Lib.hid hC
  clear hC
  go_upto_region 3 with (go_at_call 58; refine (HWC.out _).mono ?_; rintro e w1 ⟨rfl, x1, rfl⟩)
  go_wp2
  go_loopw [3] (fun i wr => ∃ k : Nat, k ≤ M.weeks.length ∧ i = .int .i64 k ∧ (∀ j (h : j < M.weeks.length), j < k → weekB M.weeks[j] = true) ∧ ∃ x : ExtW W, wr = x.w) (fun i _ => M.weeks.length - (intOf i).toNat)
  case atStart => exact ⟨0, by omega, rfl, fun j h hj => absurd hj (by omega), x1, rfl⟩
  case round =>
    obtain ⟨k, hk, rfl, hr, x, rfl⟩ := hrel
    have HR := Lib.hid hr
    clear hr HWC x1
    by_cases hlt : k < M.weeks.length
    · have hlt' : (k : Int) < (M.weeks.length : Int) := by omega
      obtain ⟨b, o, rfl, hc0, hc1⟩ := HP.out.at2 k hlt
      have c0 := ExtW.cell hc0
      have c1 := ExtW.cell hc1
      clear hc0 hc1
      by_cases hw : 0 ≤ M.weeks[k].1 ∧ M.weeks[k].1 ≤ M.weeks[k].2
      · have HWC := Lib.hid (rwIn (W := W) hw)
        have HW := Lib.hid hw
        clear hw
        by_cases hh : M.weeks[k].2 ≤ 300
        · have hh' : ¬300 < M.weeks[k].2 := by omega
          have HWB := Lib.hid (show weekB M.weeks[k] = true from by unfold weekB; simp [HW.out, hh])
          clear hh
          go_upto_region 6 with (fail)
          refine wp_region_extW (by kernel_rfl) (by kernel_rfl) ?_
          repeat (go_big_quiet_step ((go_at_call 58; exact HWC.out _)))
          refine wpQuiet_nil ?_
          rintro _ ⟨x2, rfl⟩
          go_wp2
          go_roundw
          case rel => exact ⟨k + 1, by omega, by go_num, fun j h hj => by
            by_cases e : j < k
            · exact HR.out j h e
            · obtain rfl : j = k := by omega
              exact HWB.out, x2, rfl⟩
          case measure => simp [intOf]; omega
        · have hh' : 300 < M.weeks[k].2 := by omega
          have HC := Lib.hid (chkM_f (M := M) fun h => hh ((h.week _ (List.getElem_mem hlt)).2.2))
          clear hh
          go_upto_region 6 with (fail)
          refine wp_region_extW (by kernel_rfl) (by kernel_rfl) ?_
          repeat (go_big_quiet_step ((go_at_call 58; exact HWC.out _)))
          refine wpQuiet_nil ?_
          rintro _ ⟨x2, rfl⟩
          go_wp2
          go_ret
          exact RetE.fin (HE.out.trans x2.h) (by rw [HC.out]; rfl)
      · have HWC := Lib.hid (rwOut (W := W) hw)
        have HC := Lib.hid (chkM_f (M := M) fun h => hw (by have := h.week _ (List.getElem_mem hlt); exact ⟨this.1, this.2.1⟩))
        clear hw
        go_upto_region 6 with (fail)
        refine wp_region_extW (by kernel_rfl) (by kernel_rfl) ?_
        repeat (go_big_quiet_step ((go_at_call 58; exact HWC.out _)))
        refine wpQuiet_nil ?_
        rintro _ ⟨x2, rfl⟩
        go_wp2
        go_ret
        exact RetE.fin (HE.out.trans x2.h) (by rw [HC.out]; rfl)
    obtain rfl : k = M.weeks.length := by omega
    have HWK := Lib.hid (show ∀ x ∈ M.weeks, 0 ≤ x.1 ∧ x.1 ≤ x.2 ∧ x.2 ≤ 300 from fun y hy => by
      obtain ⟨j, hj, rfl⟩ := List.getElem_of_mem hy
      have := HR.out j hj hj
      unfold weekB at this
      simpa using this)
    clear HR
    go_wp2
    go_loopw [4] (fun i wr => ∃ k : Nat, k ≤ M.reads.length ∧ i = .int .i64 k ∧ (∀ j (h : j < M.reads.length), j < k → readB M.weeks.length M.reads[j] = true) ∧ ∃ x : ExtW W, wr = x.w) (fun i _ => M.reads.length - (intOf i).toNat)
    case atStart => exact ⟨0, by omega, rfl, fun j h hj => absurd hj (by omega), x, rfl⟩
    case round =>
      clear x
      obtain ⟨k, hk, rfl, hr, x, rfl⟩ := hrel
      have HR := Lib.hid hr
      clear hr
      by_cases hlt : k < M.reads.length
      · have hlt' : (k : Int) < (M.reads.length : Int) := by omega
        obtain ⟨b, o, rfl, hc0, hc1⟩ := HQ.out.at2 k hlt
        have c0 := ExtW.cell hc0
        have c1 := ExtW.cell hc1
        clear hc0 hc1
        by_cases hw : 0 ≤ M.reads[k].1 ∧ M.reads[k].1 ≤ (M.weeks.length : Int)
        · have HAC := Lib.hid (raIn HVW.out hw)
          have HW := Lib.hid hw
          clear hw
          by_cases hh : 0 ≤ M.reads[k].2 ∧ M.reads[k].2 ≤ 99
          · have HWC := Lib.hid (rwIn (W := W) hh)
            have HRB := Lib.hid (show readB M.weeks.length M.reads[k] = true from by unfold readB; simp [HW.out, hh.1, show M.reads[k].2 < 100 from by omega])
            clear hh
            go_upto_region 11 with (fail)
            refine wp_region_extW (by kernel_rfl) (by kernel_rfl) ?_
            repeat (go_big_quiet_step (first | (go_at_call 58; exact HWC.out _) | (go_at_call 59; exact HAC.out _)))
            refine wpQuiet_nil ?_
            rintro _ ⟨x2, rfl⟩
            go_wp2
            go_roundw
            case rel => exact ⟨k + 1, by omega, by go_num, fun j h hj => by
              by_cases e : j < k
              · exact HR.out j h e
              · obtain rfl : j = k := by omega
                exact HRB.out, x2, rfl⟩
            case measure => simp [intOf]; omega
          · have HWC := Lib.hid (rwOut (W := W) hh)
            have HC := Lib.hid (chkM_f (M := M) fun h => hh (by have := h.read _ (List.getElem_mem hlt); exact ⟨this.2.2.1, this.2.2.2⟩))
            clear hh
            go_upto_region 11 with (fail)
            refine wp_region_extW (by kernel_rfl) (by kernel_rfl) ?_
            repeat (go_big_quiet_step (first | (go_at_call 58; exact HWC.out _) | (go_at_call 59; exact HAC.out _)))
            refine wpQuiet_nil ?_
            rintro _ ⟨x2, rfl⟩
            go_wp2
            go_ret
            exact RetE.fin (HE.out.trans x2.h) (by rw [HC.out]; rfl)
        · have HAC := Lib.hid (raOut HVW.out hw)
          have HC := Lib.hid (chkM_f (M := M) fun h => hw (by have := h.read _ (List.getElem_mem hlt); exact ⟨this.1, this.2.1⟩))
          clear hw
          go_upto_region 11 with (fail)
          refine wp_region_extW (by kernel_rfl) (by kernel_rfl) ?_
          repeat (go_big_quiet_step ((go_at_call 59; exact HAC.out _)))
          refine wpQuiet_nil ?_
          rintro _ ⟨x2, rfl⟩
          go_wp2
          go_ret
          exact RetE.fin (HE.out.trans x2.h) (by rw [HC.out]; rfl)
      · obtain rfl : k = M.reads.length := by omega
        have HC := Lib.hid (chkM_t (M := M) ⟨by omega, by omega, HCC.out.1, HCC.out.2, HWK.out, fun r hr => by
          obtain ⟨j, hj, rfl⟩ := List.getElem_of_mem hr
          have := HR.out j hj hj
          unfold readB at this
          simp at this
          omega⟩)
        clear HR
        go_wp2
        go_ret
        exact RetE.fin (HE.out.trans x.h) (by rw [HC.out]; rfl)

/-- In how many ways the weeks can have had plays. -/
def wayTo (M : Mt) (k : Nat) : Int := (List.range k).foldl (fun n i => n * (highM M i - lowM M i + 1)) 1
theorem wayTo_succ (M : Mt) (k : Nat) : wayTo M (k + 1) = wayTo M k * (highM M k - lowM M k + 1) := by
  unfold wayTo
  rw [List.range_succ, List.foldl_append, List.foldl_cons, List.foldl_nil]
theorem way_bd {M : Mt} (hM : ValidM M) : ∀ k, k ≤ M.weeks.length → 1 ≤ wayTo M k ∧ wayTo M k ≤ ((301 ^ k : Nat) : Int) := by
  intro k
  induction k with
  | zero => intro _; exact ⟨Int.le_refl _, by simp [wayTo]⟩
  | succ k ih =>
    intro hk
    obtain ⟨h1, h2⟩ := ih (by omega)
    have h3 := week_span hM (i := k) (by omega)
    have h4 : lowM M k ≤ highM M k ∧ highM M k - lowM M k + 1 ≤ 301 := by omega
    rw [wayTo_succ]
    refine ⟨?_, ?_⟩
    · have := Int.mul_le_mul h1 (show 1 ≤ highM M k - lowM M k + 1 by omega) (by omega) (by omega)
      omega
    · have := Int.mul_le_mul h2 h4.2 (by omega) (by omega)
      rw [Nat.pow_succ, Int.natCast_mul]
      exact this
theorem way_small {M : Mt} (hM : ValidM M) {k : Nat} (hk : k ≤ M.weeks.length) : 1 ≤ wayTo M k ∧ wayTo M k ≤ 2470885157401505 := by
  obtain ⟨h1, h2⟩ := way_bd hM k hk
  have h5 : 301 ^ k ≤ 301 ^ 5 := Nat.pow_le_pow_right (by decide) (by have := hM.nw; omega)
  have h6 : (301 : Nat) ^ 5 ≤ 2470885157401505 := by decide +kernel
  refine ⟨h1, ?_⟩
  have : ((301 ^ k : Nat) : Int) ≤ (2470885157401505 : Nat) := Int.ofNat_le.2 (Nat.le_trans h5 h6)
  omega

noncomputable def farB (M : Mt) : Bool := if 40 < M.weeks.length ∨ 40 < M.reads.length then true else if okB M = true then decide (160 < wayTo M M.weeks.length) else false

set_option maxRecDepth 20000 in
set_option maxHeartbeats 1600000 in
theorem Far04 (M : Mt) (v : Value) (w : World) (hv : MtV w v M) : Calls Tryz.prog 26 #[v] w (RetE (.bool (farB M)) w) := by
  have HV := Lib.hid hv
  obtain ⟨p, c, qq, d, rfl, hp, hq⟩ := hv
  go_enter Tryz.func26, Tryz.ntmps26
  go_upto_region 1 with (fail)
  obtain ⟨s0, hs0'⟩ : ∃ s0, s0 = w.heap.size := ⟨_, rfl⟩
  generalize hW : World.alloc _ _ = W
  have m0 : W.heap[s0]? = some (.cells #[.slice p M.weeks.length c, .slice qq M.reads.length d, .int .i64 M.wrong] 55) := by rw [hs0', ← hW]; exact heap_new _ _
  have hE : Ext w W := by rw [← hW]; exact (by repeat (first | exact Ext.refl _ | assumption | refine Ext.drewN ?_ _ | refine Ext.drew ?_ | refine Ext.alloc ?_ _))
  rw [← hs0']
  have q0 := ExtW.cell (v := .slice p M.weeks.length c) (cell_of_heap m0 0)
  have q1 := ExtW.cell (v := .slice qq M.reads.length d) (cell_of_heap m0 1)
  have q2 := ExtW.cell (v := .int .i64 M.wrong) (cell_of_heap m0 2)
  have HE := Lib.hid hE
  have HVW := Lib.hid (HV.out.ext hE)
  have HP := Lib.hid (hp.ext hE)
  obtain ⟨x0, hx0⟩ := ExtW.of (Ext.refl W)
  clear hW m0 hE hs0' hp hq
  conv => arg 5; rw [hx0]
  clear hx0
  by_cases hA : 40 < M.weeks.length
  · have HC := Lib.hid (show farB M = true from by unfold farB; rw [if_pos (Or.inl hA)])
    have hA' : 40 < (M.weeks.length : Int) := by omega
    clear hA
    go_wp2
    go_ret
    exact RetE.fin (HE.out.trans x0.h) (by rw [HC.out]; rfl)
  have hA' : ¬40 < (M.weeks.length : Int) := by omega
  by_cases hB : 40 < M.reads.length
  · have HC := Lib.hid (show farB M = true from by unfold farB; rw [if_pos (Or.inr hB)])
    have hB' : 40 < (M.reads.length : Int) := by omega
    clear hB
    go_wp2
    go_ret
    exact RetE.fin (HE.out.trans x0.h) (by rw [HC.out]; rfl)
  have hB' : ¬40 < (M.reads.length : Int) := by omega
  have HCK := Lib.hid (fun x : ExtW W => ExtW.call (rCheck04 M _ x.w (HVW.out.ext x.h) (by omega) (by omega)))
  by_cases hM : ValidM M
  case neg =>
    have HC := Lib.hid (show farB M = false from by unfold farB; rw [if_neg (by omega), if_neg (fun e => hM ((okB_iff M).1 e))])
    have HK := Lib.hid (show ∀ x : ExtW W, _ from (chkM_f hM) ▸ HCK.out)
    clear hM HCK
    go_wp2_with (go_at_call 29; refine (HK.out _).mono ?_; rintro e w1 ⟨rfl, x1, rfl⟩)
    go_ret
    exact RetE.fin (HE.out.trans x1.h) (by rw [HC.out]; rfl)
  have HC := Lib.hid (show farB M = decide (160 < wayTo M M.weeks.length) from by unfold farB; rw [if_neg (by omega), if_pos ((okB_iff M).2 hM)])
  have HK := Lib.hid (show ∀ x : ExtW W, _ from (chkM_t hM) ▸ HCK.out)
  have HVM := Lib.hid hM
  clear hM HCK
  go_upto_region 5 with (go_at_call 29; refine (HK.out _).mono ?_; rintro e w1 ⟨rfl, x1, rfl⟩)
  go_wp2
  go_loopw [3, 4] (fun n i wr => ∃ k : Nat, k ≤ M.weeks.length ∧ n = .int .i64 (wayTo M k) ∧ i = .int .i64 k ∧ ∃ x : ExtW W, wr = x.w) (fun _ i _ => M.weeks.length - (intOf i).toNat)
  case atStart => exact ⟨0, by omega, rfl, rfl, x1, rfl⟩
  case round =>
    clear x1
    obtain ⟨k, hk, rfl, rfl, x, rfl⟩ := hrel
    by_cases hlt : k < M.weeks.length
    · have hlt' : (k : Int) < (M.weeks.length : Int) := by omega
      obtain ⟨b, o, rfl, hc0, hc1⟩ := HP.out.at2 k hlt
      have hsp := week_span HVM.out hlt
      have hw1 := way_small HVM.out (k := k) (by omega)
      have hw2 := way_small HVM.out (k := k + 1) (by omega)
      have hsu := wayTo_succ M k
      have e0 : M.weeks[k].1 = lowM M k := by unfold lowM; rw [List.getD_eq_getElem?_getD, List.getElem?_eq_getElem hlt]; rfl
      have e1 : M.weeks[k].2 = highM M k := by unfold highM; rw [List.getD_eq_getElem?_getD, List.getElem?_eq_getElem hlt]; rfl
      rw [e0] at hc0
      rw [e1] at hc1
      have c0 := ExtW.cell hc0
      have c1 := ExtW.cell hc1
      obtain ⟨lo, hlo⟩ : ∃ lo, lo = lowM M k := ⟨_, rfl⟩
      obtain ⟨hi, hhi⟩ : ∃ hi, hi = highM M k := ⟨_, rfl⟩
      obtain ⟨n, hn⟩ : ∃ n, n = wayTo M k := ⟨_, rfl⟩
      obtain ⟨n2, hn2⟩ : ∃ n2, n2 = wayTo M (k + 1) := ⟨_, rfl⟩
      rw [← hlo] at c0 hsp hsu
      rw [← hhi] at c1 hsp hsu
      rw [← hn] at hw1 hsu
      rw [← hn2] at hw2 hsu
      rw [← hn]
      have z1 : IntKind.i64.wrap (hi - lo) = hi - lo := IntWalk.i64_in _ (by omega)
      have z2 : IntKind.i64.wrap (hi - lo + 1) = hi - lo + 1 := IntWalk.i64_in _ (by omega)
      have z3 : IntKind.i64.wrap (n * (hi - lo + 1)) = n2 := by rw [← hsu]; exact IntWalk.i64_in _ (by omega)
      have HN2 := Lib.hid hn2
      clear hsp hw1 hw2 hsu e0 e1 hc0 hc1 hlo hhi hn hn2
      go_upto_region 9 with (fail)
      refine wp_region_extW (by kernel_rfl) (by kernel_rfl) ?_
      repeat (go_big_quiet_step (fail))
      refine wpQuiet_nil ?_
      rintro _ ⟨x2, rfl⟩
      go_wp2
      go_roundw
      case rel => exact ⟨k + 1, by omega, by rw [← HN2.out], by go_num, x2, rfl⟩
      case measure => simp [intOf]; omega
    · obtain rfl : k = M.weeks.length := by omega
      obtain ⟨n, hn⟩ : ∃ n, n = wayTo M M.weeks.length := ⟨_, rfl⟩
      rw [← hn] at HC
      rw [← hn]
      clear hn
      by_cases h160 : 160 < n
      · have HH := Lib.hid (show decide (160 < n) = true from decide_eq_true h160)
        go_wp2
        go_ret
        exact RetE.fin (HE.out.trans x.h) (by rw [HC.out, HH.out]; rfl)
      · have HH := Lib.hid (show decide (160 < n) = false from decide_eq_false h160)
        have hle : n ≤ 160 := by omega
        go_wp2
        go_ret
        exact RetE.fin (HE.out.trans x.h) (by rw [HC.out, HH.out]; rfl)

theorem far_len {M : Mt} (h : farB M = false) : M.weeks.length ≤ 40 ∧ M.reads.length ≤ 40 := by
  unfold farB at h
  split at h
  · cases h
  · omega
end Go.Proofs.YtppncdbhebgcaaaGreatDoor
namespace Go.Proofs.YtppncdbhebgcaaaGreatDoor
open Go.RowKit

def pairVs (l : List (Int × Int)) : List Value := (List.range (l.length * 2)).map (fun j => if j % 2 = 0 then Value.int .i64 (l.getD (j / 2) (0, 0)).1 else Value.int .i64 (l.getD (j / 2) (0, 0)).2)
theorem pairVs_len (l : List (Int × Int)) : (pairVs l).length = l.length * 2 := by unfold pairVs; simp
theorem pairVs_fst {l : List (Int × Int)} {i : Nat} (h : i < l.length) : (pairVs l)[i * 2]? = some (.int .i64 l[i].1) := by
  unfold pairVs
  rw [List.getElem?_map, List.getElem?_range (by omega)]
  have e : i * 2 / 2 = i := by omega
  simp [e, List.getD_eq_getElem?_getD, h]
theorem pairVs_snd {l : List (Int × Int)} {i : Nat} (h : i < l.length) : (pairVs l)[i * 2 + 1]? = some (.int .i64 l[i].2) := by
  unfold pairVs
  rw [List.getElem?_map, List.getElem?_range (by omega)]
  have e : (i * 2 + 1) / 2 = i := by omega
  have e2 : (i * 2 + 1) % 2 = 1 := by omega
  simp [e, e2, List.getD_eq_getElem?_getD, h]
theorem pairVs_one {l : List (Int × Int)} : ∀ u ∈ pairVs l, u.oneCell' = true := by
  intro u hu
  obtain ⟨j, -, rfl⟩ := List.mem_map.1 hu
  split <;> rfl
theorem pairs_news {w : World} {b o : Nat} {l : List (Int × Int)} (h : PairsAt w (some ⟨b, o, none⟩) l) : ∀ j u, (pairVs l)[j]? = some u → w.cell? ((⟨b, o, none⟩ : Addr).add j) = some u := by
  intro j u hj
  have hjl : j < l.length * 2 := by have := (List.getElem?_eq_some_iff.1 hj).1; rwa [pairVs_len] at this
  have hadd : (⟨b, o, none⟩ : Addr).add j = ⟨b, o + j, none⟩ := by
    by_cases h0 : j = 0
    · subst h0; rfl
    · simp [Addr.add, h0]
  rw [hadd]
  obtain ⟨i, hi⟩ : ∃ i, j = i * 2 ∨ j = i * 2 + 1 := ⟨j / 2, by omega⟩
  rcases hi with rfl | rfl
  · obtain ⟨b', o', he, h1, h2⟩ := h i (by omega)
    cases he
    rw [pairVs_fst (by omega)] at hj
    cases hj
    exact h1
  · obtain ⟨b', o', he, h1, h2⟩ := h i (by omega)
    cases he
    rw [pairVs_snd (by omega)] at hj
    cases hj
    exact h2
theorem row_pairs {w : World} {B g n c : Nat} {e : TypeId} {l : List (Int × Int)} (h : w.ownsRow B e 2 (.slice (some ⟨g, 0, none⟩) n c) n (pairVs l)) : PairsAt w (some ⟨g, 0, none⟩) l := by
  have hn := h.1
  rw [pairVs_len] at hn
  rcases h.2 with ⟨hv, -⟩ | ⟨g', cap, cur, hv, -, hg, hc, -, hs, hx⟩
  · cases hv
  · cases hv
    have key : ∀ j, j < l.length * 2 → w.cell? ⟨g, j, none⟩ = (pairVs l)[j]? := by
      intro j hj
      rw [cell_of_heap hg, ← hx, List.getElem?_take, if_pos (by omega)]
      simp
    intro i hi
    refine ⟨g, 0, rfl, ?_, ?_⟩
    · rw [Nat.zero_add, key _ (by omega), pairVs_fst hi]
    · rw [Nat.zero_add, key _ (by omega), pairVs_snd hi]

/-- something appended to an empty row without room: a new block -/
theorem wp_new_row {P : Program} {w : World} {o : Oper} {a : Act} {K : Act → World → Prop} {Q : Exit → Act → World → Prop} (s x : Operand) (t : TypeId)
    (ho : o.op = .call { callee := .builtin .append, args := #[s, x], argTypes := #[t, t] })
    (e : TypeId) (i : TypeInfo) (z : Value) (size bytes : Nat) (ht : P.underlying t = some (.slice e)) (hi : P.info? e = some i) (hz : i.zero = some z)
    (hsize : i.size = size) (hby : i.bytes = bytes) (hzs : z.cells.size = size)
    (H : Addr) (hs : a.eval s = .slice (some H) 0 0)
    (ad : Addr) (m c : Nat) (news : List Value) (hx : a.eval x = .slice (some ad) m c) (hl : news.length = m * size) (hnews : ∀ j u, news[j]? = some u → w.cell? (ad.add j) = some u)
    (hm : 0 < m) (hle : m * bytes ≤ 140737488355328) (hmx : m ≤ maxLen)
    (h : ∀ cap w', Ext w w' → w'.ownsRow w.heap.size e size (.slice (some ⟨w.heap.size, 0, none⟩) m cap) m news → w.heap.size < w'.heap.size → K (a.put o.dst (.slice (some ⟨w.heap.size, 0, none⟩) m cap)) w') :
    Oper.wp P o a w K Q := by
  have hmx' : m ≤ 9223372036854775807 := hmx
  have hfit : Builtin.nextslicecap (0 + m) 0 * i.bytes ≤ 281474976710656 := growslice_fits (by omega) (by rw [hby, Nat.zero_add]; exact hle)
  have hrun := run_append_grow (P := P) w t o.type e i z ht hi hz H 0 0 [] (by simp) (by simp) ad m c news (by rw [hsize]; exact hl) hnews (by omega) (by omega) hfit
  have hcap := grownCap_ge w (0 + m) 0 e
  have hmax := grownCap_le_maxLen w (0 + m) 0 e (by omega)
  unfold Oper.wp
  simp only [Nat.zero_add] at hrun hcap hmax
  simp [execOp, ho, resolve, invoke, builtin, hs, hx, hrun, Result.andThen]
  refine h _ _ (Ext.alloc (Ext.drew (Ext.refl w)) _) ?_ (by rw [size_alloc]; exact Nat.lt_succ_self _)
  refine ⟨hl, Or.inr ⟨_, _, _, rfl, Nat.le_refl _, heap_new w.drew _, hcap, hmax, ?_, ?_⟩⟩
  · simp only [Array.size_append, List.size_toArray, size_zeroCells, hzs, hl]
    rw [← Nat.add_mul]
    congr 1
    omega
  · simp [← hl]

theorem run_append_owned_zero {P : Program} {w : World} (base : Nat) (t ty e : TypeId) (i : TypeInfo) (size : Nat) (ht : P.underlying t = some (.slice e)) (hi : P.info? e = some i)
    (v : Value) (n c : Nat) (q : Option Addr) (xs : List Value) (hown : w.ownsRow base e size v n xs) :
    (Builtin.append_ #[t, t] ty #[v, .slice q 0 c]).run P w = .ok v w := by
  cases q with
  | none =>
    rcases hown.2 with ⟨rfl, rfl⟩ | ⟨g, cap, cur, rfl, _, _, hnc, _⟩
    · simp [Builtin.append_, run_underlying ht, sizeOf, typeInfo, hi, Builtin.lenOf, Builtin.firstCells]
    · simp [Builtin.append_, run_underlying ht, sizeOf, typeInfo, hi, Builtin.lenOf, Builtin.firstCells, hnc, storeCells]
  | some ad =>
    rcases hown.2 with ⟨rfl, rfl⟩ | ⟨g, cap, cur, rfl, _, _, hnc, _⟩
    · simp [Builtin.append_, run_underlying ht, sizeOf, typeInfo, hi, Builtin.lenOf, Builtin.firstCells, loadCells, loadCellsFrom]
    · simp [Builtin.append_, run_underlying ht, sizeOf, typeInfo, hi, Builtin.lenOf, Builtin.firstCells, hnc, storeCells, loadCells, loadCellsFrom]

/-- a list of pairs appended to a new empty row, and where the new one lies -/
def RwB (B : Nat) (e : TypeId) (l : List (Int × Int)) (v : Value) (_ _ : Nat) (w : World) : Prop :=
  ∃ g cn, v = .slice (some ⟨g, 0, none⟩) l.length cn ∧ w.ownsRow B e 2 v l.length (pairVs l)
theorem RwB.mono {B : Nat} {e : TypeId} {l : List (Int × Int)} : ∀ v s t w w', Ext w w' → RwB B e l v s t w → RwB B e l v s t w' := fun _ _ _ _ _ hE ⟨g, cn, h1, h2⟩ => ⟨g, cn, h1, ownsRow_ext h2 hE⟩
def EmB (B : Nat) (e : TypeId) (v : Value) (s _ : Nat) (w : World) : Prop := v = .slice (some ⟨s, 0, none⟩) 0 0 ∧ w.ownsRow B e 2 v 0 []
theorem EmB.mono {B : Nat} {e : TypeId} : ∀ v s t w w', Ext w w' → EmB B e v s t w → EmB B e v s t w' := fun _ _ _ _ _ hE ⟨h1, h2⟩ => ⟨h1, ownsRow_ext h2 hE⟩
theorem ownsRow_off {w : World} {B size n b o : Nat} {e : TypeId} {v u : Value} {xs : List Value} (h : w.ownsRow B e size v n xs) (hb : b < B) : (w.setCell ⟨b, o, none⟩ u).ownsRow B e size v n xs := by
  refine ⟨h.1, ?_⟩
  rcases h.2 with h0 | ⟨g, cap, cur, hv, hB, hg, hr⟩
  · exact Or.inl h0
  · exact Or.inr ⟨g, cap, cur, hv, hB, heap_set_ne (by omega) hg, hr⟩
theorem own_ne {w : World} {B B' size size' n n' g g' c c' : Nat} {e e' : TypeId} {xs xs' : List Value} (h : w.ownsRow B e size (.slice (some ⟨g, 0, none⟩) n c) n xs) (h' : w.ownsRow B' e' size' (.slice (some ⟨g', 0, none⟩) n' c') n' xs') (he : e ≠ e') : g ≠ g' := by
  rintro rfl
  rcases h.2 with ⟨hv, -⟩ | ⟨g1, cap, cur, hv, -, hg, -⟩
  · cases hv
  · rcases h'.2 with ⟨hv', -⟩ | ⟨g2, cap', cur', hv', -, hg', -⟩
    · cases hv'
    · cases hv
      cases hv'
      rw [hg] at hg'
      cases hg'
      exact he rfl

theorem wp_pairs_of {w : World} {o : Oper} {a : Act} {K : Act → World → Prop} {Q : Exit → Act → World → Prop} (s x : Operand) (t e : TypeId)
    (ho : o.op = .call { callee := .builtin .append, args := #[s, x], argTypes := #[t, t] }) (ht : Tryz.prog.underlying t = some (.slice e))
    (hinf : (Tryz.prog.info? e).map (fun i => (i.zero, i.size, i.bytes)) = some (some (.agg #[.int .i64 0, .int .i64 0]), 2, 16))
    (B H : Nat) (hB : B ≤ w.heap.size) (hs : a.eval s = .slice (some ⟨H, 0, none⟩) 0 0) (hown : w.ownsRow B e 2 (.slice (some ⟨H, 0, none⟩) 0 0) 0 [])
    (p : Option Addr) (l : List (Int × Int)) (c : Nat) (hx : a.eval x = .slice p l.length c) (hl : PairsAt w p l) (hle : l.length * 16 ≤ 140737488355328)
    (h : ∀ v w', RwB B e l v w.heap.size w'.heap.size w' → Ext w w' → K (a.put o.dst v) w') :
    Oper.wp Tryz.prog o a w K Q := by
  obtain ⟨i0, hi, hz0, hz1, hz2⟩ := info_parts hinf
  cases l with
  | nil =>
    have hrun := run_append_owned_zero (P := Tryz.prog) (w := w) B t o.type e i0 2 ht hi _ 0 c p [] hown
    unfold Oper.wp
    simp only [List.length_nil] at hx
    simp [execOp, ho, resolve, invoke, builtin, hs, hx, hrun, Result.andThen]
    exact h _ w ⟨H, 0, rfl, hown⟩ (Ext.refl w)
  | cons y r =>
    obtain ⟨l, hll⟩ : ∃ l, l = y :: r := ⟨_, rfl⟩
    rw [← hll] at h hx hl hle
    have hpos : 0 < l.length := by rw [hll]; simp
    clear hll
    obtain ⟨b0, o0, rfl, -, -⟩ := hl 0 hpos
    refine wp_new_row s x t ho e i0 _ 2 16 ht hi hz0 hz1 hz2 rfl _ hs ⟨b0, o0, none⟩ l.length c (pairVs l) hx (pairVs_len l) (pairs_news hl) hpos hle (by simp only [maxLen]; omega) ?_
    intro cap w' hE ho' hlt
    exact h _ w' ⟨_, cap, rfl, ownsRow_base ho' hB⟩ hE

/-- A meter in memory of its own. -/
def MtOwn (B : Nat) (w : World) (v : Value) (M : Mt) : Prop :=
  ∃ g1 c1 g2 c2, v = .agg #[.slice (some ⟨g1, 0, none⟩) M.weeks.length c1, .slice (some ⟨g2, 0, none⟩) M.reads.length c2, .int .i64 M.wrong] ∧
    w.ownsRow B 38 2 (.slice (some ⟨g1, 0, none⟩) M.weeks.length c1) M.weeks.length (pairVs M.weeks) ∧ w.ownsRow B 108 2 (.slice (some ⟨g2, 0, none⟩) M.reads.length c2) M.reads.length (pairVs M.reads)
theorem MtOwn.mt {B : Nat} {w : World} {v : Value} {M : Mt} (h : MtOwn B w v M) : MtV w v M := by
  obtain ⟨g1, c1, g2, c2, e, h1, h2⟩ := h
  exact ⟨_, _, _, _, e, row_pairs h1, row_pairs h2⟩
theorem MtOwn.ext {B : Nat} {w w' : World} {v : Value} {M : Mt} (h : MtOwn B w v M) (hE : Ext w w') : MtOwn B w' v M := by
  obtain ⟨g1, c1, g2, c2, e, h1, h2⟩ := h
  exact ⟨g1, c1, g2, c2, e, ownsRow_ext h1 hE, ownsRow_ext h2 hE⟩

theorem heap_triple {w : World} {b : Nat} {t : TypeId} {x0 x1 x2 y0 y1 y2 : Value} (h : w.heap[b]? = some (.cells #[x0, x1, x2] t)) :
    (((w.setCell ⟨b, 0, none⟩ y0).setCell ⟨b, 1, none⟩ y1).setCell ⟨b, 2, none⟩ y2).heap[b]? = some (.cells #[y0, y1, y2] t) := heap_set (heap_set (heap_set h rfl) rfl) rfl
theorem heap_new3 (w : World) (o u v : Obj) : (((w.alloc o).alloc u).alloc v).heap[w.heap.size + 2]? = some v := by
  have := heap_new ((w.alloc o).alloc u) v
  rwa [size_alloc, size_alloc] at this
theorem copyEnd04 {W : World} {s : Nat} {a : Act} {y0 y1 y2 : Value} {t : TypeId} {R : Ending → World → Prop} (hm : W.heap[s]? = some (.cells #[y0, y1, y2] t)) (ha : a.tmps[2]? = some (.pointer (some ⟨s, 0, none⟩))) (hd : a.defers = [])
    (h : R (.returned (.agg #[y0, y1, y2])) W) : bodyPost Tryz.prog Tryz.f33 R .ret a W := by
  have c0 := cell_of_heap hm 0
  have c1 := cell_of_heap hm 1
  have c2 := cell_of_heap hm 2
  simp at c0 c1 c2
  refine bodyPost_ret (v := .agg #[y0, y1, y2]) ?_ hd h
  cases a with
  | mk tm df =>
    simp only at ha
    simp [results, Tryz.results33, go_sem, ha, c0, c1, c2]
theorem pair_keep3 {w w' : World} {b : Nat} {t : TypeId} {x y z : Value} (h : w.heap[b]? = some (.cells #[x, y, z] t)) (hE : Ext w w') : w'.heap[b]? = some (.cells #[x, y, z] t) :=
  (hE.block b (Array.getElem?_eq_some_iff.1 h).1).trans h
theorem info_span : (Tryz.prog.info? 38).map (fun i => (i.zero, i.size, i.bytes)) = some (some (.agg #[.int .i64 0, .int .i64 0]), 2, 16) := by kernel_rfl
theorem info_read : (Tryz.prog.info? 108).map (fun i => (i.zero, i.size, i.bytes)) = some (some (.agg #[.int .i64 0, .int .i64 0]), 2, 16) := by kernel_rfl

set_option maxRecDepth 20000 in
set_option maxHeartbeats 1600000 in
theorem Copy04 (M : Mt) (v : Value) (w : World) (hv : MtV w v M) (h1 : M.weeks.length * 16 ≤ 140737488355328) (h2 : M.reads.length * 16 ≤ 140737488355328) :
    Calls Tryz.prog 33 #[v] w (fun e w' => ∃ u, e = .returned u ∧ Ext w w' ∧ MtOwn w.heap.size w' u M) := by
  obtain ⟨p, c, qq, d, rfl, hp, hq⟩ := hv
  have HP := Lib.hid (fun y (h : Ext w y) => hp.ext h)
  have HQ := Lib.hid (fun y (h : Ext w y) => hq.ext h)
  have HL := Lib.hid (And.intro h1 h2)
  clear hp hq h1 h2
  go_enter Tryz.func33, Tryz.ntmps33
  go_upto_region 1 with (fail)
  go_upto_region 2 with (fail)
  obtain ⟨s0, hs0⟩ : ∃ s0, s0 = w.heap.size := ⟨_, rfl⟩
  obtain ⟨W, hW⟩ : ∃ W, W = ((w.alloc (.cells #[.slice p M.weeks.length c, .slice qq M.reads.length d, .int .i64 M.wrong] 55)).alloc (.cells #[.slice none 0 0, .slice none 0 0, .int .i64 0] 55)).alloc (.cells #[.slice p M.weeks.length c, .slice qq M.reads.length d, .int .i64 M.wrong] 55) := ⟨_, rfl⟩
  have m0 : W.heap[s0]? = some (.cells #[.slice p M.weeks.length c, .slice qq M.reads.length d, .int .i64 M.wrong] 55) := by rw [hs0]; exact heap_at0 (by rw [hW]; exact (by repeat (first | exact Ext.refl _ | assumption | refine Ext.drewN ?_ _ | refine Ext.drew ?_ | refine Ext.alloc ?_ _)))
  have m1 : W.heap[s0 + 1]? = some (.cells #[.slice none 0 0, .slice none 0 0, .int .i64 0] 55) := by rw [hs0, hW, Below.heap_alloc _ _ _ (by rw [size_alloc, size_alloc]; omega)]; exact heap_new2 _ _ _
  have m2 : W.heap[s0 + 2]? = some (.cells #[.slice p M.weeks.length c, .slice qq M.reads.length d, .int .i64 M.wrong] 55) := by rw [hs0, hW]; exact heap_new3 _ _ _ _
  have hE : Ext w W := by rw [hW]; exact (by repeat (first | exact Ext.refl _ | assumption | refine Ext.drewN ?_ _ | refine Ext.drew ?_ | refine Ext.alloc ?_ _))
  rw [← hs0, ← hW]
  rw [show s0 + 1 + 1 = s0 + 2 from rfl]
  have HCE := Lib.hid (fun y (h : Ext W y) => (⟨h.cell (cell_of_heap m0 0), h.cell (cell_of_heap m0 1), pair_keep3 m1 h, pair_keep3 m2 h, hE.trans h⟩ :
    y.cell? ⟨s0, 0, none⟩ = some (.slice p M.weeks.length c) ∧ y.cell? ⟨s0, 1, none⟩ = some (.slice qq M.reads.length d) ∧ y.heap[s0 + 1]? = some (.cells #[.slice none 0 0, .slice none 0 0, .int .i64 0] 55) ∧
    y.heap[s0 + 2]? = some (.cells #[.slice p M.weeks.length c, .slice qq M.reads.length d, .int .i64 M.wrong] 55) ∧ Ext w y))
  have HS := Lib.hid hs0
  have HSZ := Lib.hid hE.size
  clear hW m0 m1 m2 hE hs0
  refine wp_region_facts 9 [[], [], [1], [0, 2], [], [], [5], [4, 6], []] [3, 7, 8] Ext (FL [EmB W.heap.size 38, Is (.pointer (some ⟨s0, 0, none⟩)), Is (.slice p M.weeks.length c), RwB W.heap.size 38 M.weeks, EmB W.heap.size 108, Is (.pointer (some ⟨s0, 1, none⟩)), Is (.slice qq M.reads.length d), RwB W.heap.size 108 M.reads, Is (.pointer (some ⟨s0 + 2, 0, none⟩))]) (by kernel_rfl) (by kernel_rfl) Ext.refl (fun _ _ _ => Ext.trans) (fun _ _ => Ext.size) (FL.mono ⟨EmB.mono, Is.mono, Is.mono, RwB.mono, EmB.mono, Is.mono, Is.mono, RwB.mono, Is.mono, trivial⟩) ⟨?_, ?_, ?_, ?_, ?_, ?_, ?_, ?_, ?_, trivial⟩ ?_
  · refine opF_step ?_
    intro ys l0 h0 w' hr hf K hK
    clear hf
    simp only [fill, Act.put, dstO, List.take_succ_cons, List.take_zero, List.setIfInBounds_toArray, List.set_cons_zero, List.set_cons_succ, List.getElem?_cons_zero, Nat.zero_add, Nat.reduceAdd] at hK ⊢
    refine OpB.mk' ?_
    go_simp
    exact hK.out _ _ ⟨rfl, World.ownsRow_made w' #[] 0 (Ext.size ((Ext.refl W).drew.trans hr)) (by decide) rfl⟩ (Ext.alloc (Ext.refl _) _)
  · refine opF_step ?_
    intro ys l0 h0 w' hr hf K hK
    clear hf
    simp only [fill, Act.put, dstO, List.take_succ_cons, List.take_zero, List.setIfInBounds_toArray, List.set_cons_zero, List.set_cons_succ, List.getElem?_cons_zero, List.getElem?_cons_succ, Nat.zero_add, Nat.reduceAdd] at hK ⊢
    refine OpB.mk' ?_
    go_simp
    exact hK.out _ _ rfl (Ext.refl _)
  · refine opF_step ?_
    intro ys l0 h0 w' hr hf K hK
    obtain ⟨f0, -⟩ := hf
    have e0 : ys 1 = _ := f0
    obtain ⟨k0, k1, k2, k3, k4⟩ := HCE.out w' ((Ext.refl W).drew.trans hr)
    simp only [fill, Act.put, dstO, List.take_succ_cons, List.take_zero, List.setIfInBounds_toArray, List.set_cons_zero, List.set_cons_succ, List.getElem?_cons_zero, List.getElem?_cons_succ, Nat.zero_add, Nat.reduceAdd] at hK ⊢
    simp only [e0] at hK ⊢
    clear e0 f0
    refine OpB.mk' ?_
    go_simp
    exact hK.out _ _ rfl (Ext.refl _)
  · refine opF_step ?_
    intro ys l0 h0 w' hr hf K hK
    obtain ⟨⟨g0, o0⟩, f1, -⟩ := hf
    have e1 : ys 2 = _ := f1
    obtain ⟨k0, k1, k2, k3, k4⟩ := HCE.out w' ((Ext.refl W).drew.trans hr)
    rw [g0] at o0
    simp only [fill, Act.put, dstO, List.take_succ_cons, List.take_zero, List.setIfInBounds_toArray, List.set_cons_zero, List.set_cons_succ, List.getElem?_cons_zero, List.getElem?_cons_succ, Nat.zero_add, Nat.reduceAdd] at hK ⊢
    simp only [g0, e1] at hK ⊢
    clear e1 f1 g0
    refine OpB.mkG rfl (wp_pairs_of (.tmp 5) (.tmp 7) 52 38 rfl Tryz.underlying52 info_span W.heap.size (l0 0) (Ext.size ((Ext.refl W).drew.trans hr)) rfl o0 p M.weeks c rfl (HP.out w' k4) HL.out.1 ?_)
    intro u w2 hf2 hE2
    exact hK.out u w2 hf2 hE2
  · refine opF_step ?_
    intro ys l0 h0 w' hr hf K hK
    clear hf
    simp only [fill, Act.put, dstO, List.take_succ_cons, List.take_zero, List.setIfInBounds_toArray, List.set_cons_zero, List.set_cons_succ, List.getElem?_cons_zero, List.getElem?_cons_succ, Nat.zero_add, Nat.reduceAdd] at hK ⊢
    refine OpB.mk' ?_
    go_simp
    exact hK.out _ _ ⟨rfl, World.ownsRow_made w' #[] 0 (Ext.size ((Ext.refl W).drew.trans hr)) (by decide) rfl⟩ (Ext.alloc (Ext.refl _) _)
  · refine opF_step ?_
    intro ys l0 h0 w' hr hf K hK
    clear hf
    simp only [fill, Act.put, dstO, List.take_succ_cons, List.take_zero, List.setIfInBounds_toArray, List.set_cons_zero, List.set_cons_succ, List.getElem?_cons_zero, List.getElem?_cons_succ, Nat.zero_add, Nat.reduceAdd] at hK ⊢
    refine OpB.mk' ?_
    go_simp
    exact hK.out _ _ rfl (Ext.refl _)
  · refine opF_step ?_
    intro ys l0 h0 w' hr hf K hK
    obtain ⟨f0, -⟩ := hf
    have e0 : ys 5 = _ := f0
    obtain ⟨k0, k1, k2, k3, k4⟩ := HCE.out w' ((Ext.refl W).drew.trans hr)
    simp only [fill, Act.put, dstO, List.take_succ_cons, List.take_zero, List.setIfInBounds_toArray, List.set_cons_zero, List.set_cons_succ, List.getElem?_cons_zero, List.getElem?_cons_succ, Nat.zero_add, Nat.reduceAdd] at hK ⊢
    simp only [e0] at hK ⊢
    clear e0 f0
    refine OpB.mk' ?_
    go_simp
    exact hK.out _ _ rfl (Ext.refl _)
  · refine opF_step ?_
    intro ys l0 h0 w' hr hf K hK
    obtain ⟨⟨g0, o0⟩, f1, -⟩ := hf
    have e1 : ys 6 = _ := f1
    obtain ⟨k0, k1, k2, k3, k4⟩ := HCE.out w' ((Ext.refl W).drew.trans hr)
    rw [g0] at o0
    simp only [fill, Act.put, dstO, List.take_succ_cons, List.take_zero, List.setIfInBounds_toArray, List.set_cons_zero, List.set_cons_succ, List.getElem?_cons_zero, List.getElem?_cons_succ, Nat.zero_add, Nat.reduceAdd] at hK ⊢
    simp only [g0, e1] at hK ⊢
    clear e1 f1 g0
    refine OpB.mkG rfl (wp_pairs_of (.tmp 9) (.tmp 11) 53 108 rfl Tryz.underlying53 info_read W.heap.size (l0 4) (Ext.size ((Ext.refl W).drew.trans hr)) rfl o0 qq M.reads d rfl (HQ.out w' k4) HL.out.2 ?_)
    intro u w2 hf2 hE2
    exact hK.out u w2 hf2 hE2
  · refine opF_step ?_
    intro ys l0 h0 w' hr hf K hK
    clear hf
    simp only [fill, Act.put, dstO, List.take_succ_cons, List.take_zero, List.setIfInBounds_toArray, List.set_cons_zero, List.set_cons_succ, List.getElem?_cons_zero, List.getElem?_cons_succ, Nat.zero_add, Nat.reduceAdd] at hK ⊢
    refine OpB.mk' ?_
    go_simp
    exact hK.out _ _ rfl (Ext.refl _)
  intro ys l0 h0 w2 hr hf hsp
  obtain ⟨⟨g1, c1, e3, o3⟩, ⟨g2, c2, e7, o7⟩, f8, -⟩ := hf
  have e8 : ys 8 = _ := f8
  simp only [fill, Act.put, List.take_succ_cons, List.take_zero, List.setIfInBounds_toArray, List.set_cons_zero, List.set_cons_succ, Nat.zero_add, Nat.reduceAdd, List.drop_succ_cons, List.drop_zero]
  rw [e3] at o3
  rw [e7] at o7
  rw [e3, e7, e8]
  have HSZ2 := Lib.hid (show s0 + 2 < W.heap.size ∧ w.heap.size ≤ W.heap.size from ⟨(Array.getElem?_eq_some_iff.1 (HCE.out W (Ext.refl _)).2.2.2.1).1, HSZ.out⟩)
  obtain ⟨-, -, m1, m2, hE2⟩ := HCE.out w2 ((Ext.refl W).drew.trans hr)
  have O3 := Lib.hid o3
  have O7 := Lib.hid o7
  have M1 := Lib.hid m1
  have M2 := Lib.hid m2
  have HE2 := Lib.hid hE2
  have a0 : w2.cell? ⟨s0 + 2, 0, none⟩ = some (.slice p M.weeks.length c) := cell_of_heap m2 0
  have a1 : w2.cell? ⟨s0 + 2, 1, none⟩ = some (.slice qq M.reads.length d) := cell_of_heap m2 1
  have b0 : w2.frozen? ⟨s0 + 2, 0, none⟩ = false := cell_frozen m2 0
  have b1 : w2.frozen? ⟨s0 + 2, 1, none⟩ = false := cell_frozen m2 1
  clear e3 e7 e8 f8 o3 o7 hsp hr m1 m2 hE2 HCE HP HQ HL HSZ
  go_upto_region 3 with (fail)
  obtain ⟨W3, hW3⟩ : ∃ W3, W3 = (w2.setCell ⟨s0 + 2, 0, none⟩ (.slice (some ⟨g1, 0, none⟩) M.weeks.length c1)).setCell ⟨s0 + 2, 1, none⟩ (.slice (some ⟨g2, 0, none⟩) M.reads.length c2) := ⟨_, rfl⟩
  have n2 : W3.heap[s0 + 2]? = some (.cells #[.slice (some ⟨g1, 0, none⟩) M.weeks.length c1, .slice (some ⟨g2, 0, none⟩) M.reads.length c2, .int .i64 M.wrong] 55) := by rw [hW3]; exact heap_set (heap_set M2.out rfl) rfl
  have n1 : W3.heap[s0 + 1]? = some (.cells #[.slice none 0 0, .slice none 0 0, .int .i64 0] 55) := by rw [hW3]; exact heap_set_ne (by omega) (heap_set_ne (by omega) M1.out)
  have hE3 : Ext w W3 := by rw [hW3]; have := HS.out; exact Ext.setCell (Ext.setCell HE2.out (p := ⟨s0 + 2, 0, none⟩) (by show w.heap.size ≤ s0 + 2; omega) _) (p := ⟨s0 + 2, 1, none⟩) (by show w.heap.size ≤ s0 + 2; omega) _
  have O3b := Lib.hid (show W3.ownsRow W.heap.size 38 2 _ _ _ from by rw [hW3]; exact ownsRow_off (ownsRow_off O3.out HSZ2.out.1) HSZ2.out.1)
  have O7b := Lib.hid (show W3.ownsRow W.heap.size 108 2 _ _ _ from by rw [hW3]; exact ownsRow_off (ownsRow_off O7.out HSZ2.out.1) HSZ2.out.1)
  rw [← hW3]
  have a0 : W3.cell? ⟨s0 + 2, 0, none⟩ = some (.slice (some ⟨g1, 0, none⟩) M.weeks.length c1) := cell_of_heap n2 0
  have a1 : W3.cell? ⟨s0 + 2, 1, none⟩ = some (.slice (some ⟨g2, 0, none⟩) M.reads.length c2) := cell_of_heap n2 1
  have a2 : W3.cell? ⟨s0 + 2, 2, none⟩ = some (.int .i64 M.wrong) := cell_of_heap n2 2
  have d0 : W3.cell? ⟨s0 + 1, 0, none⟩ = some (.slice none 0 0) := cell_of_heap n1 0
  have d1 : W3.cell? ⟨s0 + 1, 1, none⟩ = some (.slice none 0 0) := cell_of_heap n1 1
  have d2 : W3.cell? ⟨s0 + 1, 2, none⟩ = some (.int .i64 0) := cell_of_heap n1 2
  have b0 : W3.frozen? ⟨s0 + 1, 0, none⟩ = false := cell_frozen n1 0
  have b1 : W3.frozen? ⟨s0 + 1, 1, none⟩ = false := cell_frozen n1 1
  have b2 : W3.frozen? ⟨s0 + 1, 2, none⟩ = false := cell_frozen n1 2
  have N1 := Lib.hid n1
  have HE3 := Lib.hid hE3
  clear hW3 n1 n2 hE3 O3 O7 M1 M2 HE2
  go_wp2
  refine copyEnd04 (heap_triple N1.out) rfl rfl ⟨_, rfl, ?_, g1, c1, g2, c2, rfl, ?_, ?_⟩
  · have hs := HS.out
    exact Ext.setCell (Ext.setCell (Ext.setCell HE3.out (p := ⟨s0 + 1, 0, none⟩) (by show w.heap.size ≤ s0 + 1; omega) _) (p := ⟨s0 + 1, 1, none⟩) (by show w.heap.size ≤ s0 + 1; omega) _) (p := ⟨s0 + 1, 2, none⟩) (by show w.heap.size ≤ s0 + 1; omega) _
  · have h := HSZ2.out.1
    exact ownsRow_base (ownsRow_off (ownsRow_off (ownsRow_off O3b.out (by omega)) (by omega)) (by omega)) HSZ2.out.2
  · have h := HSZ2.out.1
    exact ownsRow_base (ownsRow_off (ownsRow_off (ownsRow_off O7b.out (by omega)) (by omega)) (by omega)) HSZ2.out.2
end Go.Proofs.YtppncdbhebgcaaaGreatDoor
namespace Go.Proofs.YtppncdbhebgcaaaGreatDoor
open Go.RowKit

theorem PairsAt.cells {w : World} {b : Nat} {t : TypeId} {f : Nat × Nat} {l : List (Int × Int)} (h : w.heap[b]? = some (.cells (pairVs l).toArray t f)) : PairsAt w (some ⟨b, 0, none⟩) l := by
  intro i hi
  refine ⟨b, 0, rfl, ?_, ?_⟩
  · rw [Nat.zero_add, cell_of_heap h, List.getElem?_toArray, pairVs_fst hi]
  · rw [Nat.zero_add, cell_of_heap h, List.getElem?_toArray, pairVs_snd hi]
theorem PairsAt.fr {w w' : World} {E : Nat → Prop} {b o : Nat} {l : List (Int × Int)} (h : PairsAt w (some ⟨b, o, none⟩) l) (hF : Fr E w w') (hb : ¬E b) : PairsAt w' (some ⟨b, o, none⟩) l := by
  intro i hi
  obtain ⟨b', o', he, h1, h2⟩ := h i hi
  cases he
  exact ⟨b, o, rfl, hF.cell h1 hb, hF.cell h2 hb⟩
theorem heap_ext3 {w w' : World} {b : Nat} {o : Obj} (h : w.heap[b]? = some o) (hE : Ext w w') : w'.heap[b]? = some o := (hE.block b (Array.getElem?_eq_some_iff.1 h).1).trans h
end Go.Proofs.YtppncdbhebgcaaaGreatDoor
