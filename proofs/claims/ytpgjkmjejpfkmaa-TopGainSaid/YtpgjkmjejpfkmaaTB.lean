/- The walks of package shares: a week is settled. The walks of package shares: Check of a valid contract, Gift and Week. The walks of Week, and of the reference's Check of a contract. The walks of even and halved. What the walks of SwapsFewest and SwapsBest share. -/
import Derived.Test.YtpgjkmjejpfkmaaTA
import Derived.Test.YtpgjkmjejpfkmaaKA
import Derived.Test.YtpgjkmjejpfkmaaW01
import Derived.Test.YtpgjkmjejpfkmaaC07f
import Derived.Test.YtpgjkmjejpfkmaaS07a
namespace Go.Proofs.Ytpgjkmjejpfkmaa
open Go.RowKit

theorem rules1 (w : World) : Calls Try.prog 105 #[.int .i64 1] w (RetQ (.func (.func 110) #[] #[]) w) := by
  have hi : (Instr.index 136 (.agg #[.nilFunc, .func (.func 110) #[] #[], .func (.func 111) #[] #[], .func (.func 112) #[] #[], .func (.func 114) #[] #[], .func (.func 115) #[] #[]]) (.int .i64 1)).run Try.prog w = .ok (.func (.func 110) #[] #[]) w := by kernel_rfl
  go_enter Try.func105, Try.ntmps105
  go_wp2
  go_ret
  exact RetQ.mk0
theorem rules2 (w : World) : Calls Try.prog 105 #[.int .i64 2] w (RetQ (.func (.func 111) #[] #[]) w) := by
  have hi : (Instr.index 136 (.agg #[.nilFunc, .func (.func 110) #[] #[], .func (.func 111) #[] #[], .func (.func 112) #[] #[], .func (.func 114) #[] #[], .func (.func 115) #[] #[]]) (.int .i64 2)).run Try.prog w = .ok (.func (.func 111) #[] #[]) w := by kernel_rfl
  go_enter Try.func105, Try.ntmps105
  go_wp2
  go_ret
  exact RetQ.mk0
theorem rules3 (w : World) : Calls Try.prog 105 #[.int .i64 3] w (RetQ (.func (.func 112) #[] #[]) w) := by
  have hi : (Instr.index 136 (.agg #[.nilFunc, .func (.func 110) #[] #[], .func (.func 111) #[] #[], .func (.func 112) #[] #[], .func (.func 114) #[] #[], .func (.func 115) #[] #[]]) (.int .i64 3)).run Try.prog w = .ok (.func (.func 112) #[] #[]) w := by kernel_rfl
  go_enter Try.func105, Try.ntmps105
  go_wp2
  go_ret
  exact RetQ.mk0
theorem rules4 (w : World) : Calls Try.prog 105 #[.int .i64 4] w (RetQ (.func (.func 114) #[] #[]) w) := by
  have hi : (Instr.index 136 (.agg #[.nilFunc, .func (.func 110) #[] #[], .func (.func 111) #[] #[], .func (.func 112) #[] #[], .func (.func 114) #[] #[], .func (.func 115) #[] #[]]) (.int .i64 4)).run Try.prog w = .ok (.func (.func 114) #[] #[]) w := by kernel_rfl
  go_enter Try.func105, Try.ntmps105
  go_wp2
  go_ret
  exact RetQ.mk0
theorem rules5 (w : World) : Calls Try.prog 105 #[.int .i64 5] w (RetQ (.func (.func 115) #[] #[]) w) := by
  have hi : (Instr.index 136 (.agg #[.nilFunc, .func (.func 110) #[] #[], .func (.func 111) #[] #[], .func (.func 112) #[] #[], .func (.func 114) #[] #[], .func (.func 115) #[] #[]]) (.int .i64 5)).run Try.prog w = .ok (.func (.func 115) #[] #[]) w := by kernel_rfl
  go_enter Try.func105, Try.ntmps105
  go_wp2
  go_ret
  exact RetQ.mk0
theorem within09 (n lo hi : Int) (w : World) :
    Calls Try.prog 103 #[.int .i64 n, .int .i64 lo, .int .i64 hi] w (RetQ (.bool (bP (lo ≤ n ∧ n ≤ hi))) w) := by
  go_enter Try.func103, Try.ntmps103
  by_cases h1 : lo ≤ n
  · by_cases h2 : n ≤ hi
    · have d1 : decide (lo ≤ n) = true := by simpa using h1
      have d2 : decide (n ≤ hi) = true := by simpa using h2
      go_wp2
      go_ret
      exact RetQ.t ⟨h1, h2⟩ 0
    · have d1 : decide (lo ≤ n) = true := by simpa using h1
      have d2 : decide (n ≤ hi) = false := by simpa using h2
      go_wp2
      go_ret
      exact RetQ.f (by omega) 0
  · have d1 : decide (lo ≤ n) = false := by simpa using h1
    go_wp2
    go_ret
    exact RetQ.f (by omega) 0
theorem isCents09 (n : Int) (w : World) : Calls Try.prog 99 #[.int .i64 n] w (RetQ (.bool (bP (0 ≤ n ∧ n ≤ 9999))) w) := by
  have HC := Lib.hid (within09 n 0 9999 w)
  go_enter Try.func99, Try.ntmps99
  go_wp2_with fail
  refine HC.out.mono ?_
  rintro e w1 ⟨rfl, m, rfl⟩
  go_wp2
  go_ret
  exact RetQ.mk m

/-- the function of a clause -/
theorem pick09 (c : Cl) (hc : ClOK c) : ∃ g : Nat, (∀ w, Calls Try.prog 105 #[.int .i64 c.k] w (RetQ (.func (.func g) #[] #[]) w)) ∧ (∀ args w, (callFunc g args).run Try.prog w = .ok (.enter g args) w) ∧
    (∀ b x t w, WkAt w b x → WkOK t x → Calls Try.prog g #[.pointer (some ⟨b, 0, none⟩), clV c] w (ClPost b x c w)) := by
  obtain ⟨h1, h2⟩ := hc.k
  have hk : c.k = 1 ∨ c.k = 2 ∨ c.k = 3 ∨ c.k = 4 ∨ c.k = 5 := by omega
  rcases hk with h | h | h | h | h
  · exact ⟨110, fun w => by rw [h]; exact rules1 w, Try.call110, fun b x t w hw hx => rule1 b x c t w hw hx hc h⟩
  · exact ⟨111, fun w => by rw [h]; exact rules2 w, Try.call111, fun b x t w hw hx => rule2 b x c t w hw hx hc h⟩
  · exact ⟨112, fun w => by rw [h]; exact rules3 w, Try.call112, fun b x t w hw hx => rule3 b x c t w hw hx hc h⟩
  · exact ⟨114, fun w => by rw [h]; exact rules4 w, Try.call114, fun b x t w hw hx => rule4 b x c t w hw hx hc h⟩
  · exact ⟨115, fun w => by rw [h]; exact rules5 w, Try.call115, fun b x t w hw hx => rule5 b x c t w hw hx hc h⟩

theorem one_int (n : Int) : ∀ u ∈ [Value.int .i64 n], u.oneCell' = true := by
  intro u hu; simp at hu; subst hu; rfl
/-- clauses in memory -/
def ClsAt (w : World) (p : Option Addr) (cs : List Cl) : Prop := ∀ i (h : i < cs.length), ∃ b o, p = some ⟨b, o, none⟩ ∧ w.cell? ⟨b, o + i * 4, none⟩ = some (.int .i64 cs[i].k) ∧ w.cell? ⟨b, o + i * 4 + 1, none⟩ = some (.int .i64 cs[i].cents) ∧
  w.cell? ⟨b, o + i * 4 + 2, none⟩ = some (.int .i64 cs[i].part) ∧ w.cell? ⟨b, o + i * 4 + 3, none⟩ = some (.int .i64 cs[i].more)
theorem ClsAt.ext {w w' : World} {p : Option Addr} {cs : List Cl} (h : ClsAt w p cs) (hE : Ext w w') : ClsAt w' p cs := by
  intro i hi
  obtain ⟨b, o, hp, h1, h2, h3, h4⟩ := h i hi
  exact ⟨b, o, hp, hE.cell h1, hE.cell h2, hE.cell h3, hE.cell h4⟩
theorem runW_snoc (cs : List Cl) (c : Cl) (x : Wk) : runW (cs ++ [c]) x = clW (runW cs x) c := by simp [runW]
def wkF (x : Wk) : Value := .agg #[.int .i64 x.op, .int .i64 x.ow, .int .i64 x.rp, .int .i64 x.rest, .int .i64 x.owed]

set_option maxRecDepth 20000 in
set_option maxHeartbeats 3200000 in
theorem settle09 (p : Option Addr) (cs : List Cl) (cap : Nat) (loan t : Int) (w : World) (hp : ClsAt w p cs) (hcs : ∀ c ∈ cs, ClOK c) (hl : cs.length ≤ 5) (ht : 0 ≤ t ∧ t ≤ 9999) (hlo : 0 ≤ loan ∧ loan ≤ 9999) :
    Calls Try.prog 100 #[.slice p cs.length cap, .int .i64 loan, .int .i64 t, .int .i64 0] w (fun e w' => ∃ u, e = .returned (.tuple #[wkF (opeW (runW cs (startW t loan)).rest (runW cs (startW t loan))), u]) ∧ Ext w w') := by
  have HCS := Lib.hid hcs
  have HP := Lib.hid hp
  have hok := startW_ok ht hlo
  have HOK := Lib.hid hok
  obtain ⟨i0, hi, hz0, hz1, hz2⟩ := info_parts info_a
  clear hcs hp
  go_enter Try.func100, Try.ntmps100
  go_upto_region 2 with (fail)
  have hn := heap_new w (.cells #[.int .i64 0, .int .i64 0, .int .i64 0, .int .i64 t, .int .i64 loan] 125)
  obtain ⟨W, hW⟩ : ∃ W, W = w.alloc (.cells #[.int .i64 0, .int .i64 0, .int .i64 0, .int .i64 t, .int .i64 loan] 125) := ⟨_, rfl⟩
  have hE : Ext w W := by rw [hW]; exact Ext.alloc (Ext.refl w) _
  rw [← hW] at hn ⊢
  have hwk : WkAt W w.heap.size (startW t loan) := hn
  obtain ⟨b, hb⟩ : ∃ b, b = w.heap.size := ⟨_, rfl⟩
  rw [← hb] at hwk ⊢
  have hif : (if t < 0 then t else 0) = 0 := if_neg (by omega)
  have HOW := Lib.hid (owner09 b (startW t loan) 0 W hwk (by show -9000000 ≤ (0 : Int) + 0 ∧ (0 : Int) + 0 ≤ 9000000; omega) (by show -9000000 ≤ t - 0 ∧ t - 0 ≤ 9000000; omega))
  have HE := Lib.hid hE
  have HB := Lib.hid hb
  have hWl := hE.size
  clear hW hn hE hwk hb
  go_wp2_with fail
  refine HOW.out.mono ?_
  rintro e w2 ⟨rfl, hw2, hk2⟩
  have hsame : ownW 0 (startW t loan) = startW t loan := by simp [ownW, startW]
  rw [hsame] at hw2
  have HW2 := Lib.hid hw2
  have HE2 := Lib.hid (hk2.below HE.out (by have := HB.out; omega))
  clear hw2 hk2 hsame hif HOW
  go_wp2
  go_loopw [9, 21] (fun u i wr => ∃ k : Nat, k ≤ cs.length ∧ i = .int .i64 k ∧ Ext w wr ∧ WkAt wr b (runW (cs.take k) (startW t loan)) ∧ ∃ xs, xs.length = k ∧ wr.ownsRow (b + 1) 3 1 u k xs) (fun _ i _ => cs.length - (intOf i).toNat)
  case atStart => exact ⟨0, by omega, rfl, HE2.out, HW2.out, [], rfl, World.ownsRow_nil _ _ _ _⟩
  case round =>
    clear HE2 HW2 w2
    obtain ⟨k, hk, rfl, hE, hwk, xs, hxs, hown⟩ := hrel
    have HE2 := Lib.hid hE
    have HWK := Lib.hid hwk
    have HO := Lib.hid hown
    by_cases hlt : k < cs.length
    · obtain ⟨b2, o2, he, k1, k2, k3, k4⟩ := HP.out.ext hE k hlt
      subst he
      obtain ⟨g, hg1, hg2, hg3⟩ := pick09 cs[k] (HCS.out _ (List.getElem_mem hlt))
      have hokk := runW_ok (cs.take k) (fun c hm => HCS.out c (List.mem_of_mem_take hm)) HOK.out
      have hsn := runW_snoc (cs.take k) cs[k] (startW t loan)
      rw [← List.take_succ_eq_append_getElem hlt] at hsn
      obtain ⟨c, hc⟩ : ∃ c, c = cs[k] := ⟨_, rfl⟩
      obtain ⟨x, hx⟩ : ∃ x, x = runW (cs.take k) (startW t loan) := ⟨_, rfl⟩
      rw [← hc] at k1 k2 k3 k4 hg1 hg3 hsn
      rw [← hx] at hwk hokk hsn
      have hbl := wk_lt hwk
      have HG1 := Lib.hid hg1
      have HG3 := Lib.hid (fun w' (h : WkAt w' b x) => hg3 b x t w' h hokk)
      have HSN := Lib.hid hsn
      have HX0 := Lib.hid hwk
      clear hE hwk hown hc hx hg1 hg3 hsn hokk HWK
      go_upto_region 6 with (fail)
      have hn := heap_new wr (.cells #[.int .i64 c.k, .int .i64 c.cents, .int .i64 c.part, .int .i64 c.more] 110)
      obtain ⟨W5, hW5⟩ : ∃ W5, W5 = wr.alloc (.cells #[.int .i64 c.k, .int .i64 c.cents, .int .i64 c.part, .int .i64 c.more] 110) := ⟨_, rfl⟩
      have hE5 : Ext wr W5 := by rw [hW5]; exact Ext.alloc (Ext.refl wr) _
      have hs5 : W5.heap.size = wr.heap.size + 1 := by rw [hW5]; simp
      rw [← hW5] at hn ⊢
      obtain ⟨H, hH⟩ : ∃ H, H = wr.heap.size := ⟨_, rfl⟩
      rw [← hH] at hn ⊢
      have hbH : b < H := by omega
      have HX := Lib.hid (Ext.refl W5)
      have HE5 := Lib.hid hE5
      have HS0 := Lib.hid (fun (z : World) (hz : Ext W5 z) => (⟨hz.cell ((cell_of_heap hn 0).trans rfl), hz.cell ((cell_of_heap hn 1).trans rfl), hz.cell ((cell_of_heap hn 2).trans rfl), hz.cell ((cell_of_heap hn 3).trans rfl)⟩ :
        z.cell? ⟨H, 0, none⟩ = some (.int .i64 c.k) ∧ z.cell? ⟨H, 1, none⟩ = some (.int .i64 c.cents) ∧ z.cell? ⟨H, 2, none⟩ = some (.int .i64 c.part) ∧ z.cell? ⟨H, 3, none⟩ = some (.int .i64 c.more)))
      have hbk : W5.heap.size = H + 1 := by omega
      have hHb : some H ≠ some b := fun e => by have := Option.some.inj e; omega
      have hlo9 := fun j (hj : u9.ownBlock = some j) => HO.out.lt j hj
      have hub : u9.ownBlock = none ∨ u9.ownBlock ≠ some b := Or.inr (fun e => by have := (hlo9 b e).1; omega)
      have hHu : some H ≠ u9.ownBlock := fun e => by have := (hlo9 H e.symm).2; omega
      have hbu : some b ≠ u9.ownBlock := fun e => by have := (hlo9 b e.symm).1; omega
      have hwb : w.heap.size ≤ b := by have := HB.out; omega
      have hul : ∀ j, u9.ownBlock = some j → w.heap.size ≤ j := fun j hj => by have := (hlo9 j hj).1; omega
      have hm1 : k + 1 ≤ maxLen := by unfold maxLen; omega
      have hm2 : (k + 1) * 8 ≤ 140737488355328 := by omega
      clear hlo9
      have HHH := Lib.hid hH
      clear hW5 hE5 hn k1 k2 k3 k4 hs5 hH
      go_region_held3 (fun z => z.cell? ⟨H, 0, none⟩ = some (.int .i64 c.k) ∧ z.cell? ⟨H, 1, none⟩ = some (.int .i64 c.cents) ∧ z.cell? ⟨H, 2, none⟩ = some (.int .i64 c.part) ∧ z.cell? ⟨H, 3, none⟩ = some (.int .i64 c.more))
        (first | exact HS8.out | (refine HS7.out _ ?_; repeat (first | with_reducible exact Ext.refl _ | with_reducible refine Ext.alloc ?_ _ | with_reducible refine Ext.drew ?_)) | (refine HS0.out _ ?_; repeat (first | with_reducible exact HX.out | with_reducible refine Ext.alloc ?_ _ | with_reducible refine Ext.drew ?_ | with_reducible refine Ext.trans ?_ (StpT.out (by assumption)))))
        (first
          | (go_at_call 105; refine (HG1.out _).mono ?_; rintro e w6 ⟨rfl, hQ6⟩; have hS6 := StpT.mk (Qt.ext hQ6); clear hQ6)
          | (refine guard_op (.call { callee := .builtin .append, args := #[.tmp 25, .tmp 31], argTypes := #[23, 23] }) ?_ ?_; exact rfl; refine step_append_lies _ rfl (.tmp 25) (.tmp 31) 23 rfl (b + 1) 3 i0 (.int .i64 0) 1 8 Try.underlying23 hi hz0 hz1 hz2 rfl (by decide) _ k xs rfl (ownsRow_ext HO7.out (by repeat (first | with_reducible exact Ext.refl _ | with_reducible refine Ext.alloc ?_ _ | with_reducible refine Ext.drew ?_))) ⟨_, 0, none⟩ 1 1 [.int .i64 (giveN c x)] rfl rfl ?_ ?_ (by decide) ?_ ?_ ?_ _ rfl ?_; exact hnewsE (by repeat (first | with_reducible exact Ext.refl _ | with_reducible refine Ext.alloc ?_ _ | with_reducible refine Ext.drew ?_)) (by first | with_reducible rfl | (simp only [size_alloc]; done) | (simp only [size_alloc]; omega) | omega); exact one_int _; exact hm1; exact hm2; exact Nat.le_trans hb7 (Ext.size (by repeat (first | with_reducible exact Ext.refl _ | with_reducible refine Ext.alloc ?_ _ | with_reducible refine Ext.drew ?_))); intro g8 cap8 w8 hown8 hgr8 hat8 hlt8; have HS8 := Lib.hid (⟨hgr8.cell (HS7.out _ (by repeat (first | with_reducible exact Ext.refl _ | with_reducible refine Ext.alloc ?_ _ | with_reducible refine Ext.drew ?_))).1 hHu, hgr8.cell (HS7.out _ (by repeat (first | with_reducible exact Ext.refl _ | with_reducible refine Ext.alloc ?_ _ | with_reducible refine Ext.drew ?_))).2.1 hHu, hgr8.cell (HS7.out _ (by repeat (first | with_reducible exact Ext.refl _ | with_reducible refine Ext.alloc ?_ _ | with_reducible refine Ext.drew ?_))).2.2.1 hHu, hgr8.cell (HS7.out _ (by repeat (first | with_reducible exact Ext.refl _ | with_reducible refine Ext.alloc ?_ _ | with_reducible refine Ext.drew ?_))).2.2.2 hHu⟩ : w8.cell? ⟨H, 0, none⟩ = some (.int .i64 c.k) ∧ w8.cell? ⟨H, 1, none⟩ = some (.int .i64 c.cents) ∧ w8.cell? ⟨H, 2, none⟩ = some (.int .i64 c.part) ∧ w8.cell? ⟨H, 3, none⟩ = some (.int .i64 c.more)); have hW8 : WkAt w8 b (clW x c) := (hgr8.block b (wk_lt (wk_ext HW7.out (by repeat (first | with_reducible exact Ext.refl _ | with_reducible refine Ext.alloc ?_ _ | with_reducible refine Ext.drew ?_)))) hbu).trans (wk_ext HW7.out (by repeat (first | with_reducible exact Ext.refl _ | with_reducible refine Ext.alloc ?_ _ | with_reducible refine Ext.drew ?_))); have HW8 := Lib.hid hW8; have hE8 : Ext w w8 := Below.grown (Ext.trans HE7.out (by repeat (first | with_reducible exact Ext.refl _ | with_reducible refine Ext.alloc ?_ _ | with_reducible refine Ext.drew ?_))) hgr8 (Ext.size (Ext.trans HE7.out (by repeat (first | with_reducible exact Ext.refl _ | with_reducible refine Ext.alloc ?_ _ | with_reducible refine Ext.drew ?_)))) hul; have HE8 := Lib.hid hE8; have HO8 := Lib.hid hown8; clear hown8 hgr8 hat8 hlt8 hW8 hE8)
          | (refine (HG3.out _ (wk_ext HX0.out (HE5.out.trans (by repeat (first | with_reducible exact HX.out | with_reducible refine Ext.alloc ?_ _ | with_reducible refine Ext.drew ?_ | with_reducible refine Ext.trans ?_ (StpT.out (by assumption))))))).mono ?_; rintro e w7 ⟨rfl, hw7, hk7⟩; have HS7 := Lib.hid (fun (z : World) (hz : Ext w7 z) => (⟨hz.cell (hk7.cell (HS0.out _ (by repeat (first | with_reducible exact HX.out | with_reducible refine Ext.alloc ?_ _ | with_reducible refine Ext.drew ?_ | with_reducible refine Ext.trans ?_ (StpT.out (by assumption))))).1 hHb), hz.cell (hk7.cell (HS0.out _ (by repeat (first | with_reducible exact HX.out | with_reducible refine Ext.alloc ?_ _ | with_reducible refine Ext.drew ?_ | with_reducible refine Ext.trans ?_ (StpT.out (by assumption))))).2.1 hHb), hz.cell (hk7.cell (HS0.out _ (by repeat (first | with_reducible exact HX.out | with_reducible refine Ext.alloc ?_ _ | with_reducible refine Ext.drew ?_ | with_reducible refine Ext.trans ?_ (StpT.out (by assumption))))).2.2.1 hHb), hz.cell (hk7.cell (HS0.out _ (by repeat (first | with_reducible exact HX.out | with_reducible refine Ext.alloc ?_ _ | with_reducible refine Ext.drew ?_ | with_reducible refine Ext.trans ?_ (StpT.out (by assumption))))).2.2.2 hHb)⟩ : z.cell? ⟨H, 0, none⟩ = some (.int .i64 c.k) ∧ z.cell? ⟨H, 1, none⟩ = some (.int .i64 c.cents) ∧ z.cell? ⟨H, 2, none⟩ = some (.int .i64 c.part) ∧ z.cell? ⟨H, 3, none⟩ = some (.int .i64 c.more))); have HO7 := Lib.hid (World.ownsRow.kept (ownsRow_ext HO.out (HE5.out.trans (by repeat (first | with_reducible exact HX.out | with_reducible refine Ext.alloc ?_ _ | with_reducible refine Ext.drew ?_ | with_reducible refine Ext.trans ?_ (StpT.out (by assumption)))))) hk7 hub); have HW7 := Lib.hid hw7; have hE7 : Ext w w7 := Kept.below hk7 (HE2.out.trans (HE5.out.trans (by repeat (first | with_reducible exact HX.out | with_reducible refine Ext.alloc ?_ _ | with_reducible refine Ext.drew ?_ | with_reducible refine Ext.trans ?_ (StpT.out (by assumption)))))) hwb; have HE7 := Lib.hid hE7; have hb7 : b + 1 ≤ w7.heap.size := wk_lt hw7; clear hw7 hk7 hE7))
      all_goals
        go_wp2
        go_roundw
        case rel => exact ⟨k + 1, by omega, by go_num, HE8.out, by rw [HSN.out]; exact HW8.out, xs ++ [.int .i64 (giveN c x)], by simp [hxs], HO8.out⟩
        case measure => simp [intOf]; omega
    · obtain rfl : k = cs.length := by omega
      rw [List.take_length] at hwk
      have hokk := runW_ok cs HCS.out HOK.out
      obtain ⟨x, hx⟩ : ∃ x, x = runW cs (startW t loan) := ⟨_, rfl⟩
      rw [← hx] at hwk hokk
      have HXX := Lib.hid hx
      obtain ⟨g1, g2, g3, g4, g5, g6, g7⟩ := hokk
      have HOP := Lib.hid (oper09 b x x.rest wr hwk (by omega) (by omega))
      have c3 := cell_of_heap hwk 3
      simp at c3
      have hwb : w.heap.size ≤ b := by have := HB.out; omega
      clear hwk hx g1 g2 g3 g4 g5 g6 g7 HWK hown HO
      go_wp2_with fail
      refine HOP.out.mono ?_
      rintro e w8 ⟨rfl, hw8, hk8⟩
      have HE8 := Lib.hid (Kept.below hk8 HE2.out hwb)
      have HW8 := Lib.hid hw8
      have e0 := cell_of_heap hw8 0
      have e1 := cell_of_heap hw8 1
      have e2 := cell_of_heap hw8 2
      have e3 := cell_of_heap hw8 3
      have e4 := cell_of_heap hw8 4
      have f0 := cell_frozen hw8 0
      have f1 := cell_frozen hw8 1
      have f2 := cell_frozen hw8 2
      have f3 := cell_frozen hw8 3
      have f4 := cell_frozen hw8 4
      simp at e0 e1 e2 e3 e4
      clear hw8 hk8 c3 hE
      go_wp2
      obtain ⟨y, hy⟩ : ∃ y, y = opeW x.rest x := ⟨_, rfl⟩
      have HW9 := HW8.out
      rw [← hy] at HW9 ⊢
      obtain ⟨W9, hW9⟩ : ∃ W9, W9 = (((((w8.setCell ⟨b, 0, none⟩ (.int .i64 y.op)).setCell ⟨b, 1, none⟩ (.int .i64 y.ow)).setCell ⟨b, 2, none⟩ (.int .i64 y.rp)).setCell ⟨b, 3, none⟩ (.int .i64 y.rest)).setCell ⟨b, 4, none⟩ (.int .i64 y.owed)) := ⟨_, rfl⟩
      have hb9 : WkAt W9 b y := by rw [hW9]; exact heap_set (heap_set (heap_set (heap_set (heap_set HW9 rfl) rfl) rfl) rfl) rfl
      have hE9 : Ext w W9 := by rw [hW9]; exact Ext.set (Ext.set (Ext.set (Ext.set (Ext.set HE8.out hwb) hwb) hwb) hwb) hwb
      rw [← hW9]
      refine bodyPost_ret (v := .tuple #[wkF y, u9]) ?_ rfl ⟨u9, by rw [hy, HXX.out], hE9⟩
      have a0 := cell_of_heap hb9 0
      have a1 := cell_of_heap hb9 1
      have a2 := cell_of_heap hb9 2
      have a3 := cell_of_heap hb9 3
      have a4 := cell_of_heap hb9 4
      simp at a0 a1 a2 a3 a4
      simp [results, Try.results100, go_sem, a0, a1, a2, a3, a4, wkF]
end Go.Proofs.Ytpgjkmjejpfkmaa
namespace Go.Proofs.Ytpgjkmjejpfkmaa
open Go.RowKit

set_option maxRecDepth 20000 in
set_option maxHeartbeats 1600000 in
theorem bad09 (c : Cl) (w : World) (hc : ClOK c) : Calls Try.prog 108 #[clV c] w (RetE (.bool false) w) := by
  unfold clV
  go_enter Try.func108, Try.ntmps108
  go_upto_region 1 with (fail)
  have hn := heap_new w (.cells #[.int .i64 c.k, .int .i64 c.cents, .int .i64 c.part, .int .i64 c.more] 110)
  obtain ⟨W, hW⟩ : ∃ W, W = w.alloc (.cells #[.int .i64 c.k, .int .i64 c.cents, .int .i64 c.part, .int .i64 c.more] 110) := ⟨_, rfl⟩
  have hE : Ext w W := by rw [hW]; exact Ext.alloc (Ext.refl w) _
  rw [← hW] at hn ⊢
  have q0 := ExtW.cell (v := .int .i64 c.k) (cell_of_heap hn 0)
  have q1 := ExtW.cell (v := .int .i64 c.cents) (cell_of_heap hn 1)
  have q2 := ExtW.cell (v := .int .i64 c.part) (cell_of_heap hn 2)
  have q3 := ExtW.cell (v := .int .i64 c.more) (cell_of_heap hn 3)
  have H1 := Lib.hid (fun x : ExtW W => ExtW.call (RetQ.e (RetQ.bt hc.k (within09 c.k 1 5 x.w))))
  have H2 := Lib.hid (fun x : ExtW W => ExtW.call (RetQ.e (RetQ.bt hc.cents (isCents09 c.cents x.w))))
  have H3 := Lib.hid (fun x : ExtW W => ExtW.call (RetQ.e (RetQ.bt hc.part (within09 c.part 0 100 x.w))))
  have H4 := Lib.hid (fun x : ExtW W => ExtW.call (RetQ.e (RetQ.bt hc.more (within09 c.more 0 100 x.w))))
  obtain ⟨x0, hx0⟩ := ExtW.of (Ext.refl W)
  clear hW hn hc
  conv => arg 5; rw [hx0]
  clear hx0
  go_wp2_with fail
  refine (H1.out _).mono ?_
  rintro e _ ⟨rfl, x1, rfl⟩
  go_wp2_with fail
  refine (H2.out _).mono ?_
  rintro e _ ⟨rfl, x2, rfl⟩
  go_wp2_with fail
  refine (H3.out _).mono ?_
  rintro e _ ⟨rfl, x3, rfl⟩
  go_wp2_with fail
  refine (H4.out _).mono ?_
  rintro e _ ⟨rfl, x4, rfl⟩
  go_wp2
  go_ret
  exact RetE.fin (hE.trans x4.h) rfl

theorem index09 (p : Option Addr) (cs : List Cl) (cap : Nat) (w : World) (hp : ClsAt w p cs) (hcs : ∀ c ∈ cs, ClOK c) (hl : cs.length ≤ 5) :
    Calls Try.prog 118 #[.slice p cs.length cap, .func (.func 108) #[] #[]] w (RetE (.int .i64 (-1)) w) := by
  have HF := Lib.hid (fun (x : ExtW w) k (h : k < cs.length) => ExtW.call (bad09 cs[k] x.w (hcs _ (List.getElem_mem h))))
  have hcall := Try.call108
  obtain ⟨x0, hx0⟩ := ExtW.of (Ext.refl w)
  go_enter Try.func118, Try.ntmps118
  clear hcs
  conv => arg 5; rw [hx0]
  clear hx0
  go_wp2
  go_loopw [8] (fun i wr => ∃ k : Nat, k ≤ cs.length ∧ i = .int .i64 k ∧ ∃ x : ExtW w, wr = x.w) (fun i _ => cs.length - (intOf i).toNat)
  case atStart => exact ⟨0, by omega, rfl, x0, rfl⟩
  case round =>
    obtain ⟨k, hk, rfl, x, rfl⟩ := hrel
    by_cases hlt : k < cs.length
    · obtain ⟨b, o, he, k1, k2, k3, k4⟩ := hp k hlt
      subst he
      have s1 := ExtW.cell k1
      have s2 := ExtW.cell k2
      have s3 := ExtW.cell k3
      have s4 := ExtW.cell k4
      have hC := HF.out
      replace hC := fun x => hC x k hlt
      obtain ⟨c, hc⟩ : ∃ c, c = cs[k] := ⟨_, rfl⟩
      rw [← hc] at hC s1 s2 s3 s4
      unfold clV at hC
      have HC := Lib.hid hC
      clear hC hc k1 k2 k3 k4
      go_wp2_with fail
      refine (HC.out _).mono ?_
      rintro e _ ⟨rfl, x2, rfl⟩
      go_wp2
      go_roundw
      case rel => exact ⟨k + 1, by omega, by go_num, x2, rfl⟩
      case measure => simp [intOf]; omega
    · obtain rfl : k = cs.length := by omega
      go_wp2
      go_ret
      exact RetE.fin x.h rfl
theorem contains09 (p : Option Addr) (cs : List Cl) (cap : Nat) (w : World) (hp : ClsAt w p cs) (hcs : ∀ c ∈ cs, ClOK c) (hl : cs.length ≤ 5) :
    Calls Try.prog 109 #[.slice p cs.length cap, .func (.func 108) #[] #[]] w (RetE (.bool false) w) := by
  have HC := Lib.hid (index09 p cs cap w hp hcs hl)
  go_enter Try.func109, Try.ntmps109
  go_wp2_with fail
  refine HC.out.mono ?_
  rintro e w2 ⟨rfl, hE⟩
  go_wp2
  go_ret
  exact RetE.fin hE rfl

/-- a contract that is valid -/
structure ShOK (cs : List Cl) (loan : Int) : Prop where
  len : cs.length ≤ 5
  cl : ∀ c ∈ cs, ClOK c
  loan : 0 ≤ loan ∧ loan ≤ 9999

set_option maxRecDepth 20000 in
set_option maxHeartbeats 1600000 in
theorem check09 (p : Option Addr) (cs : List Cl) (cap : Nat) (loan : Int) (w : World) (hp : ClsAt w p cs) (h : ShOK cs loan) : Calls Try.prog 102 #[.agg #[.slice p cs.length cap, .int .i64 loan]] w (RetE (.int .i64 0) w) := by
  have hl := h.len
  go_enter Try.func102, Try.ntmps102
  go_upto_region 1 with (fail)
  have hn := heap_new w (.cells #[.slice p cs.length cap, .int .i64 loan] 58)
  obtain ⟨W, hW⟩ : ∃ W, W = w.alloc (.cells #[.slice p cs.length cap, .int .i64 loan] 58) := ⟨_, rfl⟩
  have hE : Ext w W := by rw [hW]; exact Ext.alloc (Ext.refl w) _
  rw [← hW] at hn ⊢
  have q0 := ExtW.cell (v := .slice p cs.length cap) (cell_of_heap hn 0)
  have q1 := ExtW.cell (v := .int .i64 loan) (cell_of_heap hn 1)
  have H1 := Lib.hid (fun x : ExtW W => ExtW.call (contains09 p cs cap x.w (hp.ext (hE.trans x.h)) h.cl hl))
  have H2 := Lib.hid (fun x : ExtW W => ExtW.call (RetQ.e (RetQ.bt h.loan (isCents09 loan x.w))))
  have hd : decide ((5 : Int) < (cs.length : Int)) = false := by simp; omega
  obtain ⟨x0, hx0⟩ := ExtW.of (Ext.refl W)
  clear hW hn h hp
  conv => arg 5; rw [hx0]
  clear hx0
  go_wp2_with fail
  refine (H1.out _).mono ?_
  rintro e _ ⟨rfl, x1, rfl⟩
  go_wp2_with fail
  refine (H2.out _).mono ?_
  rintro e _ ⟨rfl, x2, rfl⟩
  go_wp2
  go_ret
  exact RetE.fin (hE.trans x2.h) rfl
theorem ask09 (p : Option Addr) (cs : List Cl) (cap : Nat) (loan : Int) (w : World) (hp : ClsAt w p cs) (h : ShOK cs loan) : Calls Try.prog 98 #[.agg #[.slice p cs.length cap, .int .i64 loan], .bool true] w (RetE (.int .i64 0) w) := by
  go_enter Try.func98, Try.ntmps98
  go_upto_region 1 with (fail)
  have hn := heap_new w (.cells #[.slice p cs.length cap, .int .i64 loan] 58)
  obtain ⟨W, hW⟩ : ∃ W, W = w.alloc (.cells #[.slice p cs.length cap, .int .i64 loan] 58) := ⟨_, rfl⟩
  have hE : Ext w W := by rw [hW]; exact Ext.alloc (Ext.refl w) _
  rw [← hW] at hn ⊢
  have q0 := ExtW.cell (v := .slice p cs.length cap) (cell_of_heap hn 0)
  have q1 := ExtW.cell (v := .int .i64 loan) (cell_of_heap hn 1)
  have H1 := Lib.hid (fun x : ExtW W => ExtW.call (check09 p cs cap loan x.w (hp.ext (hE.trans x.h)) h))
  obtain ⟨x0, hx0⟩ := ExtW.of (Ext.refl W)
  clear hW hn h hp
  conv => arg 5; rw [hx0]
  clear hx0
  go_wp2_with fail
  refine (H1.out _).mono ?_
  rintro e _ ⟨rfl, x1, rfl⟩
  go_wp2
  go_ret
  exact RetE.fin (hE.trans x1.h) rfl

/-- how a week is split -/
def splitV (cs : List Cl) (loan t : Int) : Value := .agg #[.int .i64 ((runW cs (startW t loan)).op + (runW cs (startW t loan)).rest), .int .i64 (runW cs (startW t loan)).ow, .int .i64 (runW cs (startW t loan)).rp]

set_option maxRecDepth 20000 in
set_option maxHeartbeats 1600000 in
theorem gift09 (p : Option Addr) (cs : List Cl) (cap : Nat) (loan t : Int) (w : World) (hp : ClsAt w p cs) (h : ShOK cs loan) (ht : 0 ≤ t ∧ t ≤ 9999) :
    Calls Try.prog 82 #[.agg #[.slice p cs.length cap, .int .i64 loan], .int .i64 t, .int .i64 0] w (RetE (.tuple #[splitV cs loan t, .int .i64 0]) w) := by
  go_enter Try.func82, Try.ntmps82
  go_upto_region 1 with (fail)
  have hn := heap_new1 w (.cells #[.slice p cs.length cap, .int .i64 loan] 58) (.cells #[.int .i64 0, .int .i64 0, .int .i64 0] 61)
  have hn2 := heap_new2 w (.cells #[.slice p cs.length cap, .int .i64 loan] 58) (.cells #[.int .i64 0, .int .i64 0, .int .i64 0] 61)
  obtain ⟨W, hW⟩ : ∃ W, W = (w.alloc (.cells #[.slice p cs.length cap, .int .i64 loan] 58)).alloc (.cells #[.int .i64 0, .int .i64 0, .int .i64 0] 61) := ⟨_, rfl⟩
  have hE : Ext w W := by rw [hW]; exact Ext.alloc (Ext.alloc (Ext.refl w) _) _
  rw [← hW] at hn hn2 ⊢
  have q0 := ExtW.cell (v := .slice p cs.length cap) (cell_of_heap hn 0)
  have q1 := ExtW.cell (v := .int .i64 loan) (cell_of_heap hn 1)
  have H1 := Lib.hid (fun x : ExtW W => ExtW.call (RetQ.e (RetQ.bt ht (isCents09 t x.w))))
  have H2 := Lib.hid (fun x : ExtW W => ExtW.call (RetQ.e (RetQ.bt (by omega : (0 : Int) ≤ 0 ∧ (0 : Int) ≤ 9999) (isCents09 0 x.w))))
  have H3 := Lib.hid (fun x : ExtW W => ExtW.call (ask09 p cs cap loan x.w (hp.ext (hE.trans x.h)) h))
  have H4 := Lib.hid (fun x : ExtW W => settle09 p cs cap loan t x.w (hp.ext (hE.trans x.h)) h.cl h.len ht h.loan)
  have HN2 := Lib.hid hn2
  have HE := Lib.hid hE
  obtain ⟨x0, hx0⟩ := ExtW.of (Ext.refl W)
  clear hW hn h hp hn2 hE
  conv => arg 5; rw [hx0]
  clear hx0
  refine wp_region_extW (by kernel_rfl) (by kernel_rfl) ?_
  repeat (go_big_quiet_step (first | (go_at_call 99; with_reducible exact H1.out _) | (go_at_call 99; with_reducible exact H2.out _) | (go_at_call 98; exact H3.out _)))
  refine wpQuiet_nil ?_
  rintro _ ⟨x2, rfl⟩
  go_wp2_with fail
  refine (H4.out _).mono ?_
  rintro e w3 ⟨u, rfl, hE3⟩
  have z2 := HN2.out
  have z3 := (Below.block (x2.h.trans hE3) _ (by exact (Array.getElem?_eq_some_iff.1 z2).1)).trans z2
  have HE3 := Lib.hid (x2.h.trans hE3)
  unfold wkF opeW
  obtain ⟨x, hx⟩ : ∃ x, x = runW cs (startW t loan) := ⟨_, rfl⟩
  have HX := Lib.hid hx
  rw [← hx]
  clear hx
  have hw0 : w.heap.size ≤ w.heap.size + 1 := Nat.le_succ _
  go_upto_region 5 with (fail)
  obtain ⟨W5, hW5⟩ : ∃ W5, W5 = w3.alloc (.cells #[.int .i64 (x.op + x.rest), .int .i64 x.ow, .int .i64 x.rp, .int .i64 0, .int .i64 x.owed] 125) := ⟨_, rfl⟩
  have z5 : W5.heap[w.heap.size + 1]? = some (.cells #[.int .i64 0, .int .i64 0, .int .i64 0] 61) := by rw [hW5]; exact (Below.block (Ext.alloc (Ext.refl w3) _) _ (Array.getElem?_eq_some_iff.1 z3).1).trans z3
  have y5 : W5.heap[w3.heap.size]? = some (.cells #[.int .i64 (x.op + x.rest), .int .i64 x.ow, .int .i64 x.rp, .int .i64 0, .int .i64 x.owed] 125) := by rw [hW5]; exact heap_new w3 _
  have hE5 : Ext W W5 := by rw [hW5]; exact Ext.alloc HE3.out _
  rw [← hW5]
  have c0 := cell_of_heap z5 0
  have c1 := cell_of_heap z5 1
  have c2 := cell_of_heap z5 2
  have f0 := cell_frozen z5 0
  have f1 := cell_frozen z5 1
  have f2 := cell_frozen z5 2
  have d0 := cell_of_heap y5 0
  have d1 := cell_of_heap y5 1
  have d2 := cell_of_heap y5 2
  simp at c0 c1 c2 d0 d1 d2
  have HZ5 := Lib.hid z5
  have HE5 := Lib.hid hE5
  clear hW5 z5 y5 hE5 z2 z3 hE3
  go_wp2
  obtain ⟨W6, hW6⟩ : ∃ W6, W6 = ((W5.setCell ⟨w.heap.size + 1, 0, none⟩ (.int .i64 (x.op + x.rest))).setCell ⟨w.heap.size + 1, 1, none⟩ (.int .i64 x.ow)).setCell ⟨w.heap.size + 1, 2, none⟩ (.int .i64 x.rp) := ⟨_, rfl⟩
  have z6 : W6.heap[w.heap.size + 1]? = some (.cells #[.int .i64 (x.op + x.rest), .int .i64 x.ow, .int .i64 x.rp] 61 (0, 0)) := by rw [hW6]; exact heap_set (heap_set (heap_set HZ5.out rfl) rfl) rfl
  have hE6 : Ext w W6 := by rw [hW6]; exact Ext.set (Ext.set (Ext.set (HE.out.trans HE5.out) hw0) hw0) hw0
  rw [← hW6]
  refine bodyPost_ret (v := .tuple #[.agg #[.int .i64 (x.op + x.rest), .int .i64 x.ow, .int .i64 x.rp], .int .i64 0]) ?_ rfl (RetE.fin hE6 (by rw [HX.out]; rfl))
  have a0 := cell_of_heap z6 0
  have a1 := cell_of_heap z6 1
  have a2 := cell_of_heap z6 2
  simp at a0 a1 a2
  simp [results, Try.results82, go_sem, a0, a1, a2]
end Go.Proofs.Ytpgjkmjejpfkmaa
namespace Go.Proofs.Ytpgjkmjejpfkmaa
open Go.RowKit

set_option maxRecDepth 20000 in
set_option maxHeartbeats 1600000 in
theorem week09 (p : Option Addr) (cs : List Cl) (cap : Nat) (loan t : Int) (w : World) (hp : ClsAt w p cs) (h : ShOK cs loan) (ht : 0 ≤ t ∧ t ≤ 9999) :
    Calls Try.prog 41 #[.agg #[.slice p cs.length cap, .int .i64 loan], .int .i64 t] w (RetE (.tuple #[splitV cs loan t, .int .i64 0]) w) := by
  go_enter Try.func41, Try.ntmps41
  go_upto_region 1 with (fail)
  have hn := heap_new1 w (.cells #[.slice p cs.length cap, .int .i64 loan] 58) (.cells #[.int .i64 0, .int .i64 0, .int .i64 0] 61)
  have hn2 := heap_new2 w (.cells #[.slice p cs.length cap, .int .i64 loan] 58) (.cells #[.int .i64 0, .int .i64 0, .int .i64 0] 61)
  obtain ⟨W, hW⟩ : ∃ W, W = (w.alloc (.cells #[.slice p cs.length cap, .int .i64 loan] 58)).alloc (.cells #[.int .i64 0, .int .i64 0, .int .i64 0] 61) := ⟨_, rfl⟩
  have hE : Ext w W := by rw [hW]; exact Ext.alloc (Ext.alloc (Ext.refl w) _) _
  rw [← hW] at hn hn2 ⊢
  have q0 := ExtW.cell (v := .slice p cs.length cap) (cell_of_heap hn 0)
  have q1 := ExtW.cell (v := .int .i64 loan) (cell_of_heap hn 1)
  have H1 := Lib.hid (fun x : ExtW W => ExtW.call (gift09 p cs cap loan t x.w (hp.ext (hE.trans x.h)) h ht))
  have HN2 := Lib.hid hn2
  have HE := Lib.hid hE
  obtain ⟨x0, hx0⟩ := ExtW.of (Ext.refl W)
  clear hW hn h hp hn2 hE
  conv => arg 5; rw [hx0]
  clear hx0
  unfold splitV at H1
  obtain ⟨x, hx⟩ : ∃ x, x = runW cs (startW t loan) := ⟨_, rfl⟩
  have HX := Lib.hid hx
  rw [← hx] at H1
  clear hx
  have hw0 : w.heap.size ≤ w.heap.size + 1 := Nat.le_succ _
  go_wp2_with fail
  refine (H1.out _).mono ?_
  rintro e _ ⟨rfl, x1, rfl⟩
  have z5 := (Below.block x1.h _ (Array.getElem?_eq_some_iff.1 HN2.out).1).trans HN2.out
  have c0 := cell_of_heap z5 0
  have c1 := cell_of_heap z5 1
  have c2 := cell_of_heap z5 2
  have f0 := cell_frozen z5 0
  have f1 := cell_frozen z5 1
  have f2 := cell_frozen z5 2
  simp at c0 c1 c2
  have HZ5 := Lib.hid z5
  clear z5
  go_wp2
  obtain ⟨W6, hW6⟩ : ∃ W6, W6 = ((x1.w.setCell ⟨w.heap.size + 1, 0, none⟩ (.int .i64 (x.op + x.rest))).setCell ⟨w.heap.size + 1, 1, none⟩ (.int .i64 x.ow)).setCell ⟨w.heap.size + 1, 2, none⟩ (.int .i64 x.rp) := ⟨_, rfl⟩
  have z6 : W6.heap[w.heap.size + 1]? = some (.cells #[.int .i64 (x.op + x.rest), .int .i64 x.ow, .int .i64 x.rp] 61 (0, 0)) := by rw [hW6]; exact heap_set (heap_set (heap_set HZ5.out rfl) rfl) rfl
  have hE6 : Ext w W6 := by rw [hW6]; exact Ext.set (Ext.set (Ext.set (HE.out.trans x1.h) hw0) hw0) hw0
  rw [← hW6]
  refine bodyPost_ret (v := .tuple #[.agg #[.int .i64 (x.op + x.rest), .int .i64 x.ow, .int .i64 x.rp], .int .i64 0]) ?_ rfl (RetE.fin hE6 (by rw [HX.out]; rfl))
  have a0 := cell_of_heap z6 0
  have a1 := cell_of_heap z6 1
  have a2 := cell_of_heap z6 2
  simp at a0 a1 a2
  simp [results, Try.results41, go_sem, a0, a1, a2]

theorem rwithin09 (n lo hi : Int) (w : World) :
    Calls Try.prog 97 #[.int .i64 n, .int .i64 lo, .int .i64 hi] w (RetQ (.bool (bP (lo ≤ n ∧ n ≤ hi))) w) := by
  have HC := Lib.hid (Within01 n lo hi w)
  go_enter Try.func97, Try.ntmps97
  go_wp2_with fail
  refine HC.out.mono ?_
  rintro e w1 ⟨rfl, m, rfl⟩
  go_wp2
  go_ret
  exact RetQ.mk m
theorem risCents09 (n : Int) (w : World) : Calls Try.prog 96 #[.int .i64 n] w (RetQ (.bool (bP (0 ≤ n ∧ n ≤ 9999))) w) := by
  have HC := Lib.hid (rwithin09 n 0 9999 w)
  go_enter Try.func96, Try.ntmps96
  go_wp2_with fail
  refine HC.out.mono ?_
  rintro e w1 ⟨rfl, m, rfl⟩
  go_wp2
  go_ret
  exact RetQ.mk m

noncomputable def shChk (cs : List Cl) (loan : Int) : Int := if bP (ShOK cs loan) = true then 0 else 90

set_option maxRecDepth 20000 in
set_option maxHeartbeats 3200000 in
theorem rcheck09 (p : Option Addr) (cs : List Cl) (cap : Nat) (loan : Int) (w : World) (hp : ClsAt w p cs) (hl : cs.length ≤ 40) : Calls Try.prog 81 #[.agg #[.slice p cs.length cap, .int .i64 loan]] w (RetE (.int .i64 (shChk cs loan)) w) := by
  go_enter Try.func81, Try.ntmps81
  go_upto_region 1 with (fail)
  have hn := heap_new w (.cells #[.slice p cs.length cap, .int .i64 loan] 58)
  obtain ⟨W, hW⟩ : ∃ W, W = w.alloc (.cells #[.slice p cs.length cap, .int .i64 loan] 58) := ⟨_, rfl⟩
  have hE : Ext w W := by rw [hW]; exact Ext.alloc (Ext.refl w) _
  rw [← hW] at hn ⊢
  have q0 := ExtW.cell (v := .slice p cs.length cap) (cell_of_heap hn 0)
  have q1 := ExtW.cell (v := .int .i64 loan) (cell_of_heap hn 1)
  have HEW := Lib.hid hE
  have HP := Lib.hid (hp.ext hE)
  obtain ⟨x0, hx0⟩ := ExtW.of (Ext.refl W)
  clear hW hn hp hE
  conv => arg 5; rw [hx0]
  clear hx0
  by_cases h5 : cs.length ≤ 5
  case neg =>
    have hd : decide (5 < cs.length) = true := by simp; omega
    have hd2 : decide ((5 : Int) < (cs.length : Int)) = true := by simp; omega
    have H5 := Lib.hid h5
    clear h5
    go_wp2
    go_ret
    exact RetE.fin (HEW.out.trans x0.h) (by unfold shChk; rw [bP_f (fun h => H5.out h.len)]; rfl)
  have hd : decide (5 < cs.length) = false := by simp; omega
  have hd2 : decide ((5 : Int) < (cs.length : Int)) = false := by simp; omega
  by_cases hlo : 0 ≤ loan ∧ loan ≤ 9999
  case neg =>
    have HL := Lib.hid (fun x : ExtW W => ExtW.call (RetQ.e (RetQ.bf hlo (risCents09 loan x.w))))
    have HNO := Lib.hid hlo
    clear hlo
    go_wp2_with fail
    refine (HL.out _).mono ?_
    rintro e _ ⟨rfl, x1, rfl⟩
    go_wp2
    go_ret
    exact RetE.fin (HEW.out.trans x1.h) (by unfold shChk; rw [bP_f (fun h => HNO.out h.loan)]; rfl)
  have HL := Lib.hid (fun x : ExtW W => ExtW.call (RetQ.e (RetQ.bt hlo (risCents09 loan x.w))))
  have HLO := Lib.hid hlo
  clear hlo
  go_wp2_with fail
  refine (HL.out _).mono ?_
  rintro e _ ⟨rfl, x1, rfl⟩
  clear hd hd2
  go_wp2
  go_loopw [3] (fun i wr => ∃ k : Nat, k ≤ cs.length ∧ i = .int .i64 k ∧ (∀ c ∈ cs.take k, ClOK c) ∧ ∃ x : ExtW W, wr = x.w) (fun i _ => cs.length - (intOf i).toNat)
  case atStart => exact ⟨0, by omega, rfl, by simp, x1, rfl⟩
  case round =>
    obtain ⟨k, hk, rfl, hr, x, rfl⟩ := hrel
    have HR := Lib.hid hr
    clear hr
    by_cases hlt : k < cs.length
    · obtain ⟨b, o, he, k1, k2, k3, k4⟩ := HP.out.ext x.h k hlt
      subst he
      have hnx : ClOK cs[k] → ∀ c ∈ cs.take (k + 1), ClOK c := by
        intro h c hm
        rw [List.take_succ_eq_append_getElem hlt] at hm
        rcases List.mem_append.1 hm with h1 | h1
        · exact HR.out c h1
        · rw [List.mem_singleton.1 h1]; exact h
      have hmem : cs[k] ∈ cs := List.getElem_mem hlt
      obtain ⟨c, hc⟩ : ∃ c, c = cs[k] := ⟨_, rfl⟩
      rw [← hc] at k1 k2 k3 k4 hnx hmem
      have HNX := Lib.hid hnx
      have HMEM := Lib.hid hmem
      clear hc hnx hmem
      have hq0 := q0 x
      go_upto_region 7 with (fail)
      have hn := heap_new x.w (.cells #[.int .i64 c.k, .int .i64 c.cents, .int .i64 c.part, .int .i64 c.more] 110)
      obtain ⟨W5, hW5⟩ : ∃ W5, W5 = x.w.alloc (.cells #[.int .i64 c.k, .int .i64 c.cents, .int .i64 c.part, .int .i64 c.more] 110) := ⟨_, rfl⟩
      have hE5 : Ext x.w W5 := by rw [hW5]; exact Ext.alloc (Ext.refl x.w) _
      rw [← hW5] at hn ⊢
      have s0 := ExtW.cell (v := .int .i64 c.k) (cell_of_heap hn 0)
      have s1 := ExtW.cell (v := .int .i64 c.cents) (cell_of_heap hn 1)
      have s2 := ExtW.cell (v := .int .i64 c.part) (cell_of_heap hn 2)
      have s3 := ExtW.cell (v := .int .i64 c.more) (cell_of_heap hn 3)
      have HE5 := Lib.hid hE5
      obtain ⟨yy, hyy⟩ := ExtW.of (Ext.refl W5)
      clear hW5 hn hE5 k1 k2 k3 k4 hq0
      conv => arg 5; rw [hyy]
      clear hyy
      by_cases tK : 1 ≤ c.k ∧ c.k ≤ 5
      case neg =>
        have HK := Lib.hid (fun y : ExtW W5 => ExtW.call (RetQ.e (RetQ.bf tK (rwithin09 c.k 1 5 y.w))))
        have HNO := Lib.hid tK
        clear tK
        go_wp2_with fail
        refine (HK.out _).mono ?_
        rintro e _ ⟨rfl, y0, rfl⟩
        go_wp2
        go_ret
        exact RetE.fin ((HEW.out.trans x.h).trans (HE5.out.trans y0.h)) (by unfold shChk; rw [bP_f (fun h => HNO.out (h.cl c HMEM.out).k)]; rfl)
      have HK := Lib.hid (fun y : ExtW W5 => ExtW.call (RetQ.e (RetQ.bt tK (rwithin09 c.k 1 5 y.w))))
      have TK := Lib.hid tK
      clear tK
      by_cases tC : 0 ≤ c.cents ∧ c.cents ≤ 9999
      case neg =>
        have HC := Lib.hid (fun y : ExtW W5 => ExtW.call (RetQ.e (RetQ.bf tC (risCents09 c.cents y.w))))
        have HNO := Lib.hid tC
        clear tC
        go_wp2_with fail
        refine (HK.out _).mono ?_
        rintro e _ ⟨rfl, y0, rfl⟩
        go_wp2_with fail
        refine (HC.out _).mono ?_
        rintro e _ ⟨rfl, y1, rfl⟩
        go_wp2
        go_ret
        exact RetE.fin ((HEW.out.trans x.h).trans (HE5.out.trans y1.h)) (by unfold shChk; rw [bP_f (fun h => HNO.out (h.cl c HMEM.out).cents)]; rfl)
      have HC := Lib.hid (fun y : ExtW W5 => ExtW.call (RetQ.e (RetQ.bt tC (risCents09 c.cents y.w))))
      have TC := Lib.hid tC
      clear tC
      by_cases tP : 0 ≤ c.part ∧ c.part ≤ 100
      case neg =>
        have HP := Lib.hid (fun y : ExtW W5 => ExtW.call (RetQ.e (RetQ.bf tP (rwithin09 c.part 0 100 y.w))))
        have HNO := Lib.hid tP
        clear tP
        go_wp2_with fail
        refine (HK.out _).mono ?_
        rintro e _ ⟨rfl, y0, rfl⟩
        go_wp2_with fail
        refine (HC.out _).mono ?_
        rintro e _ ⟨rfl, y1, rfl⟩
        go_wp2_with fail
        refine (HP.out _).mono ?_
        rintro e _ ⟨rfl, y2, rfl⟩
        go_wp2
        go_ret
        exact RetE.fin ((HEW.out.trans x.h).trans (HE5.out.trans y2.h)) (by unfold shChk; rw [bP_f (fun h => HNO.out (h.cl c HMEM.out).part)]; rfl)
      have HP := Lib.hid (fun y : ExtW W5 => ExtW.call (RetQ.e (RetQ.bt tP (rwithin09 c.part 0 100 y.w))))
      have TP := Lib.hid tP
      clear tP
      by_cases tM : 0 ≤ c.more ∧ c.more ≤ 100
      case neg =>
        have HM := Lib.hid (fun y : ExtW W5 => ExtW.call (RetQ.e (RetQ.bf tM (rwithin09 c.more 0 100 y.w))))
        have HNO := Lib.hid tM
        clear tM
        go_wp2_with fail
        refine (HK.out _).mono ?_
        rintro e _ ⟨rfl, y0, rfl⟩
        go_wp2_with fail
        refine (HC.out _).mono ?_
        rintro e _ ⟨rfl, y1, rfl⟩
        go_wp2_with fail
        refine (HP.out _).mono ?_
        rintro e _ ⟨rfl, y2, rfl⟩
        go_wp2_with fail
        refine (HM.out _).mono ?_
        rintro e _ ⟨rfl, y3, rfl⟩
        go_wp2
        go_ret
        exact RetE.fin ((HEW.out.trans x.h).trans (HE5.out.trans y3.h)) (by unfold shChk; rw [bP_f (fun h => HNO.out (h.cl c HMEM.out).more)]; rfl)
      have HM := Lib.hid (fun y : ExtW W5 => ExtW.call (RetQ.e (RetQ.bt tM (rwithin09 c.more 0 100 y.w))))
      have TM := Lib.hid tM
      clear tM
      go_wp2_with fail
      refine (HK.out _).mono ?_
      rintro e _ ⟨rfl, y0, rfl⟩
      go_wp2_with fail
      refine (HC.out _).mono ?_
      rintro e _ ⟨rfl, y1, rfl⟩
      go_wp2_with fail
      refine (HP.out _).mono ?_
      rintro e _ ⟨rfl, y2, rfl⟩
      go_wp2_with fail
      refine (HM.out _).mono ?_
      rintro e _ ⟨rfl, y3, rfl⟩
      go_wp2
      go_roundw
      case rel => exact ⟨k + 1, by omega, by go_num, HNX.out ⟨TK.out, TC.out, TP.out, TM.out⟩, ⟨y3.w, x.h.trans (HE5.out.trans y3.h)⟩, rfl⟩
      case measure => simp [intOf]; omega
    · obtain rfl : k = cs.length := by omega
      rw [List.take_length] at HR
      go_wp2
      go_ret
      exact RetE.fin (HEW.out.trans x.h) (by unfold shChk; rw [bP_t ⟨h5, HR.out, HLO.out⟩]; rfl)
end Go.Proofs.Ytpgjkmjejpfkmaa
namespace Go.Proofs.Ytpgjkmjejpfkmaa
open Go.RowKit

def EvenS (cs : List Cl) (loan : Int) : Prop := ShOK cs loan ∧ cs.countP rnd ≤ 1

set_option maxRecDepth 20000 in
set_option maxHeartbeats 1600000 in
theorem even09 (p : Option Addr) (cs : List Cl) (cap : Nat) (loan : Int) (w : World) (hp : ClsAt w p cs) (hl : cs.length ≤ 9223372036854775807) :
    Calls Try.prog 39 #[.agg #[.slice p cs.length cap, .int .i64 loan]] w (RetE (.bool (bP (EvenS cs loan))) w) := by
  go_enter Try.func39, Try.ntmps39
  go_upto_region 1 with (fail)
  have hn := heap_new w (.cells #[.slice p cs.length cap, .int .i64 loan] 58)
  obtain ⟨W, hW⟩ : ∃ W, W = w.alloc (.cells #[.slice p cs.length cap, .int .i64 loan] 58) := ⟨_, rfl⟩
  have hE : Ext w W := by rw [hW]; exact Ext.alloc (Ext.refl w) _
  rw [← hW] at hn ⊢
  have q0 := ExtW.cell (v := .slice p cs.length cap) (cell_of_heap hn 0)
  have q1 := ExtW.cell (v := .int .i64 loan) (cell_of_heap hn 1)
  have HEW := Lib.hid hE
  have HP := Lib.hid (hp.ext hE)
  have HPW := Lib.hid hp
  obtain ⟨x0, hx0⟩ := ExtW.of (Ext.refl W)
  clear hW hn hp hE
  conv => arg 5; rw [hx0]
  clear hx0
  by_cases h40 : cs.length ≤ 40
  case neg =>
    have hd2 : decide (40 < cs.length) = true := by simp; omega
    have hd3 : decide ((40 : Int) < (cs.length : Int)) = true := by simp; omega
    have H5 := Lib.hid h40
    clear h40
    go_wp2
    go_ret
    exact RetE.ff (HEW.out.trans x0.h) (fun h => H5.out (by have := h.1.len; omega))
  have hd2 : decide (40 < cs.length) = false := by simp; omega
  have hd3 : decide ((40 : Int) < (cs.length : Int)) = false := by simp; omega
  have hC := fun x : ExtW W => ExtW.call (rcheck09 p cs cap loan x.w (HP.out.ext x.h) h40)
  by_cases hS : ShOK cs loan
  case neg =>
    have hv : shChk cs loan = 90 := by unfold shChk; rw [bP_f hS]; rfl
    rw [hv] at hC
    have HC := Lib.hid hC
    have HNO := Lib.hid hS
    clear hC hS hv
    go_wp2_with fail
    refine (HC.out _).mono ?_
    rintro e _ ⟨rfl, x1, rfl⟩
    go_wp2
    go_ret
    exact RetE.ff (HEW.out.trans x1.h) (fun h => HNO.out h.1)
  have hv : shChk cs loan = 0 := by unfold shChk; rw [bP_t hS]; rfl
  rw [hv] at hC
  have HC := Lib.hid hC
  have HS := Lib.hid hS
  have h5 := hS.len
  clear hC hS hv
  go_wp2_with fail
  refine (HC.out _).mono ?_
  rintro e _ ⟨rfl, x1, rfl⟩
  clear hd2 hd3
  go_wp2
  go_loopw [3, 4] (fun n i wr => ∃ k : Nat, k ≤ cs.length ∧ i = .int .i64 k ∧ n = .int .i64 ((cs.take k).countP rnd : Nat) ∧ ∃ x : ExtW W, wr = x.w) (fun _ i _ => cs.length - (intOf i).toNat)
  case atStart => exact ⟨0, by omega, rfl, rfl, x1, rfl⟩
  case round =>
    obtain ⟨k, hk, rfl, rfl, x, rfl⟩ := hrel
    have hcl : (cs.take k).countP rnd ≤ 5 := by
      have h1 := List.countP_le_length (l := cs.take k) (p := rnd)
      rw [List.length_take] at h1
      omega
    by_cases hlt : k < cs.length
    · obtain ⟨b, o, he, k1, -⟩ := HP.out.ext x.h k hlt
      subst he
      have hsn : (cs.take (k + 1)).countP rnd = (cs.take k).countP rnd + (if rnd cs[k] = true then 1 else 0) := by
        rw [List.take_succ_eq_append_getElem hlt, List.countP_append, List.countP_singleton]
      obtain ⟨c, hc⟩ : ∃ c, c = cs[k] := ⟨_, rfl⟩
      obtain ⟨n, hn⟩ : ∃ n, n = (cs.take k).countP rnd := ⟨_, rfl⟩
      rw [← hc] at k1 hsn
      rw [← hn] at hsn hcl
      rw [← hn]
      have HSN := Lib.hid hsn
      clear hc hn hsn
      have hq0 := q0 x
      by_cases k3 : c.k = 3
      · have hd : (c.k == 3) = true := by simpa using k3
        have HR := Lib.hid (by unfold rnd; rw [hd]; rfl : rnd c = true)
        clear k3
        go_wp2
        go_roundw
        case rel => exact ⟨k + 1, by omega, by go_num, by rw [HSN.out, if_pos HR.out]; go_num, x, rfl⟩
        case measure => simp [intOf]; omega
      · have hd : (c.k == 3) = false := by simpa using k3
        by_cases k4 : c.k = 4
        · have hd2 : (c.k == 4) = true := by simpa using k4
          have HR := Lib.hid (by unfold rnd; rw [hd, hd2]; rfl : rnd c = true)
          clear k3 k4
          go_wp2
          go_roundw
          case rel => exact ⟨k + 1, by omega, by go_num, by rw [HSN.out, if_pos HR.out]; go_num, x, rfl⟩
          case measure => simp [intOf]; omega
        · have hd2 : (c.k == 4) = false := by simpa using k4
          have HR := Lib.hid (by unfold rnd; rw [hd, hd2]; simp : ¬rnd c = true)
          clear k3 k4
          go_wp2
          go_roundw
          case rel => exact ⟨k + 1, by omega, by go_num, by rw [HSN.out, if_neg HR.out, Nat.add_zero], x, rfl⟩
          case measure => simp [intOf]; omega
    · obtain rfl : k = cs.length := by omega
      rw [List.take_length] at hcl ⊢
      have hq0 := q0 x
      obtain ⟨n, hn⟩ : ∃ n, n = cs.countP rnd := ⟨_, rfl⟩
      rw [← hn]
      have HN := Lib.hid hn
      clear hn hcl
      by_cases h1 : n ≤ 1
      · have hd : decide (n ≤ 1) = true := by simpa using h1
        have hd3 : decide ((n : Int) ≤ 1) = true := by simp; omega
        have H1 := Lib.hid h1
        clear h1
        go_wp2
        go_ret
        exact RetE.tt (HEW.out.trans x.h) ⟨HS.out, by rw [← HN.out]; exact H1.out⟩
      · have hd : decide (n ≤ 1) = false := by simpa using h1
        have hd3 : decide ((n : Int) ≤ 1) = false := by simp; omega
        have H1 := Lib.hid h1
        clear h1
        go_wp2
        go_ret
        exact RetE.ff (HEW.out.trans x.h) (fun h => H1.out (by rw [HN.out]; exact h.2))

/-- the contract of the example -/
def halfC : List Cl := [⟨3, 0, 50, 0⟩]
theorem half_ok : ShOK halfC 0 := ⟨by decide, fun c hc => by
  rw [halfC, List.mem_singleton] at hc
  subst hc
  exact ⟨by decide, by decide, by decide, by decide⟩, by decide⟩
theorem half_split : splitV halfC 0 110 = .agg #[.int .i64 55, .int .i64 55, .int .i64 0] := by kernel_rfl
set_option maxRecDepth 20000 in
theorem halved09 (w : World) : Calls Try.prog 40 #[] w (RetE (.bool true) w) := by
  go_enter Try.func40, Try.ntmps40
  go_wp2_with fail
  have hn := heap_new w (.cells #[.int .i64 3, .int .i64 0, .int .i64 50, .int .i64 0] 110)
  have hE0 : Ext w (w.alloc (.cells #[.int .i64 3, .int .i64 0, .int .i64 50, .int .i64 0] 110)) := Ext.alloc (Ext.refl w) _
  have hcs : ClsAt (w.alloc (.cells #[.int .i64 3, .int .i64 0, .int .i64 50, .int .i64 0] 110)) (some ⟨w.heap.size, 0, none⟩) halfC := by
    intro i hi
    obtain rfl : i = 0 := by simp [halfC] at hi; exact hi
    exact ⟨w.heap.size, 0, rfl, (cell_of_heap hn 0).trans rfl, (cell_of_heap hn 1).trans rfl, (cell_of_heap hn 2).trans rfl, (cell_of_heap hn 3).trans rfl⟩
  have hC := week09 (some ⟨w.heap.size, 0, none⟩) halfC 1 0 110 _ hcs half_ok (by decide)
  rw [half_split] at hC
  have HC := Lib.hid hC
  clear hC hcs hn
  refine HC.out.mono ?_
  rintro e w1 ⟨rfl, hE1⟩
  have HE := Lib.hid (hE0.trans hE1)
  clear hE0 hE1 HC
  go_wp2
  go_ret
  exact RetE.fin (HE.out.alloc _) rfl
end Go.Proofs.Ytpgjkmjejpfkmaa
namespace Go.Proofs.Ytpgjkmjejpfkmaa
open Go.RowKit

/-- a visit that is cloned has lists of modest length -/
structure Lens (S : Swap) : Prop where
  b : S.boxes.length ≤ 1000
  br : ∀ i (h : i < S.boxes.length), S.boxes[i].length ≤ 1000
  s : S.stock.length ≤ 1000
  e : S.earn.length ≤ 1000
  er : ∀ i (h : i < S.earn.length), S.earn[i].length ≤ 1000
  k : S.keeps.length ≤ 1000
theorem lens_of {S : Swap} (h : ¬Wide S) : Lens S := by
  simp only [Wide, FarL, not_or, not_exists, not_and] at h
  obtain ⟨⟨h1, h2⟩, ⟨h3, h4⟩, h5, h6⟩ := h
  refine ⟨by omega, fun i hi => ?_, by omega, by omega, fun i hi => ?_, by omega⟩
  · have := h2 _ (List.getElem_mem hi); omega
  · have := h4 _ (List.getElem_mem hi); omega
/-- Clone, where only the reading of the clone matters -/
theorem Clone07c {W : World} (x : ExtW W) (v : Value) (S : Swap) (hv : SwapV x.w v S) (h : Lens S) :
    Calls Try.prog 16 #[v] x.w (fun e w' => ∃ r0 d0 r1 d1 r2 d2 r3 d3, e = .returned (.agg #[.slice r0 S.boxes.length d0, .slice r1 S.stock.length d1, .slice r2 S.earn.length d2, .slice r3 S.keeps.length d3, .int .i64 S.changes]) ∧
      ∃ y : ExtW W, w' = y.w ∧ SwapV y.w (.agg #[.slice r0 S.boxes.length d0, .slice r1 S.stock.length d1, .slice r2 S.earn.length d2, .slice r3 S.keeps.length d3, .int .i64 S.changes]) S) := by
  refine (Clone07 v S x.w hv h.b h.br h.s h.e h.er h.k).mono ?_
  rintro e w' ⟨v0, v1, v2, v3, g0, k0, g2, k2, B, rfl, hE, -, hco⟩
  obtain ⟨r0, d0, r1, d1, r2, d2, r3, d3, he, h1⟩ := hco.swap
  injection he with he
  injection he with he
  simp only [List.cons.injEq, and_true] at he
  obtain ⟨rfl, rfl, rfl, rfl⟩ := he
  exact ⟨r0, d0, r1, d1, r2, d2, r3, d3, rfl, ⟨w', x.h.trans hE⟩, rfl, hco.swap⟩
theorem few_vals (S : Swap) (g : Int) : ∃ n m : Int, fewV S g = .tuple #[.int .i64 n, .int .i64 m] := by
  unfold fewV
  split
  · split
    · split
      · exact ⟨_, _, rfl⟩
      · exact ⟨_, _, rfl⟩
    · exact ⟨_, _, rfl⟩
  · exact ⟨_, _, rfl⟩
theorem change_vals (S : Swap) : ∃ n m : Int, changeV S = .tuple #[.int .i64 n, .int .i64 m] := by
  unfold changeV
  split
  · exact ⟨_, _, rfl⟩
  · exact ⟨_, _, rfl⟩
theorem copy_valsK (S : Swap) (t : Int) : ∃ n m : Int, copyV S t = .tuple #[.int .i64 n, .int .i64 m] := by
  unfold copyV
  split
  · split
    · exact ⟨_, _, rfl⟩
    · exact ⟨_, _, rfl⟩
  · exact ⟨_, _, rfl⟩
theorem fair_vals (S : Swap) : ∃ n m : Int, fairV S = .tuple #[.int .i64 n, .int .i64 m] := by
  unfold fairV
  split
  · split
    · exact ⟨_, _, rfl⟩
    · exact ⟨_, _, rfl⟩
  · exact ⟨_, _, rfl⟩
end Go.Proofs.Ytpgjkmjejpfkmaa
