
/- The walk of the reference's truths of a chart. -/
import Derived.Test.YtaoamnhchidjfaaGreatDoorCD
import Derived.Deep.RegionWith
import Derived.Deep.RegionHeld3
namespace Go.Proofs.YtaoamnhchidjfaaGreatDoor
open Go.RowKit

def TpPost (T : Tab) (p : Option Addr) (first : List Int) (w : World) (e : Ending) (w' : World) : Prop :=
  ∃ v vs, e = .returned v ∧ Ext w w' ∧ ∀ r : Option Nat, (∀ b, r = some b → b < w.heap.size) → IntsNe r w p first → RwV w' w.heap.size v vs (prL T first) r
/-- a table that the reference examines -/
structure TabR (T : Tab) : Prop where
  ne : ∀ l ∈ T, l ≠ []
  ls : ∀ l ∈ T, l.length ≤ 2000
  len : T.length ≤ 6
  ways : waysT T ≤ 70
theorem ways_drop {T : Tab} (h : ∀ l ∈ T, l ≠ []) (k : Nat) : waysT (T.drop k) ≤ waysT T := by
  have e := waysT_app (T.take k) (T.drop k)
  rw [List.take_append_drop] at e
  have := waysT_pos (T := T.take k) fun l hl => h l (List.mem_of_mem_take hl)
  rw [e]
  exact Nat.le_mul_of_pos_left _ this

set_option maxRecDepth 100000 in
set_option maxHeartbeats 3200000 in
theorem rtruths06 (F : Tab) (hF : TabR F) (q : Option Addr) (cq : Nat) :
    ∀ (T : Tab) (first : List Int), first.length + T.length = F.length → F.drop first.length = T → ∀ (p : Option Addr) (c : Nat) (w : World), ListsAt w q F → IntsAt w p first →
    Calls Tryz.prog 70 #[.slice q F.length cq, .slice p first.length c] w (TpPost T p first w) := by
  intro T
  induction T with
  | nil =>
    intro first hd hr p c w hv hp
    have HP := Lib.hid hp
    have heq : ((first.length : Int) == (F.length : Int)) = true := by rw [beq_iff_eq]; simp at hd; omega
    clear hp hr hd hv
    go_enter Tryz.func70, Tryz.ntmps70
    go_wp2
    go_ret
    refine ⟨_, [.slice p first.length c], rfl, Ext.alloc (Ext.refl _) _, fun r hr hne => ?_⟩
    refine ⟨rfl, own_one w _ _, fun i hi => ?_, fun i hi => ?_⟩
    · obtain rfl : i = 0 := by simpa [prL] using hi
      exact ⟨p, c, rfl, ((HP.out.ne (some w.heap.size) (fun b hb => by cases hb; exact Nat.le_refl _)).ext (Ext.alloc (Ext.refl w) _))⟩
    · obtain rfl : i = 0 := by simpa [prL] using hi
      exact ⟨p, c, rfl, hne.ext (Ext.alloc (Ext.refl _) _)⟩
  | cons s T ih =>
    intro first hd hr p c w hv hp
    have HP := Lib.hid hp
    have HV := Lib.hid hv
    have hn5 := hF.len
    rw [List.length_cons] at hd
    have hlt : first.length < F.length := by omega
    have hsm : F[first.length] = s := by
      have := List.drop_eq_getElem_cons hlt
      rw [hr] at this
      exact (List.cons.inj this).1.symm
    have hsl : s.length ≤ 2000 := hF.ls s (by rw [← hsm]; exact List.getElem_mem hlt)
    have hrest : F.drop (first.length + 1) = T := by
      have := List.drop_eq_getElem_cons hlt
      rw [hr] at this
      exact (List.cons.inj this).2.symm
    have hwl : waysT T ≤ 70 := by rw [← hrest]; exact Nat.le_trans (ways_drop hF.ne _) hF.ways
    obtain ⟨b0, o0, rq, rc, rfl, hc0, hc1⟩ := hv.at first.length hlt
    rw [hsm] at hc0 hc1
    have HIH := Lib.hid (fun (x : Int) p c w' (h1 : ListsAt w' (some ⟨b0, o0, none⟩) F) (h2 : IntsAt w' p (first ++ [x])) => (by
      have := ih (first ++ [x]) (by rw [List.length_append, List.length_singleton]; omega) (by rw [List.length_append, List.length_singleton]; exact hrest) p c w' h1 h2
      rwa [List.length_append, List.length_singleton] at this : Calls Tryz.prog 70 #[.slice (some ⟨b0, o0, none⟩) F.length cq, .slice p (first.length + 1) c] w' (TpPost T p (first ++ [x]) w')))
    have heq : ((first.length : Int) == (F.length : Int)) = false := by rw [beq_eq_false_iff_ne]; omega
    obtain ⟨i1, hi1, hz1, hy1, hb1⟩ := info_parts info_b
    have HWY := Lib.hid (fun f => prL_ways T f)
    have HSU := Lib.hid (fun k (h : k < s.length) => prTo_succ s T first h)
    have HSL := Lib.hid (fun k (h : k ≤ s.length) => prTo_len s T first k h)
    have HAL := Lib.hid (prTo_all s T first)
    have HRW := Lib.hid hc1
    have hlt' : (first.length : Int) < (F.length : Int) := by omega
    clear hv hr hp ih hsm hrest hF hc1
    go_enter Tryz.func70, Tryz.ntmps70
    go_wp2
    go_loopw [5, 7] (fun u i wr => ∃ k : Nat, k ≤ s.length ∧ i = .int .i64 k ∧ Ext w wr ∧
        ∃ vs, ∀ r : Option Nat, (∀ b, r = some b → b < w.heap.size) → IntsNe r w p first → RwV wr w.heap.size u vs (prTo s T first k) r) (fun _ i _ => s.length - (intOf i).toNat)
    case atStart => exact ⟨0, by omega, rfl, Ext.refl _, [], fun r _ _ => RwV.nil _ _ _⟩
    case round =>
      obtain ⟨k, hk, rfl, hE, vs, hF⟩ := hrel
      have HEW := Lib.hid hE
      have HF := Lib.hid hF
      have hsz := hE.size
      clear hE hF
      by_cases hlt2 : k < s.length
      · have hlt2' : (k : Int) < (s.length : Int) := by omega
        obtain ⟨rb, ro, rfl, hck⟩ := HRW.out.at k hlt2
        have r0 := ExtW.cell (HEW.out.cell hck)
        have HPW := Lib.hid (HP.out.ext HEW.out)
        have hF0 := HF.out none (fun b hb => by cases hb) (HP.out.ne none (fun b hb => by cases hb))
        have HO := Lib.hid hF0.out
        have hvl : vs.length ≤ 2000 * 70 := by rw [hF0.len, HSL.out k hk]; exact Nat.mul_le_mul (by omega) hwl
        have hf5 : first.length ≤ 6 := by omega
        have hsu := HSU.out k hlt2
        obtain ⟨n, hn⟩ : ∃ n, n = s[k] := ⟨_, rfl⟩
        rw [← hn] at r0 hsu hck
        have HIH3 := Lib.hid (fun p c w' h1 h2 => HIH.out n p c w' h1 h2)
        have HS0 := Lib.hid (fun (z : World) (hz : Ext wr z) => (⟨r0 ⟨z, hz⟩, trivial⟩ : z.cell? ⟨rb, ro + k, none⟩ = some (.int .i64 n) ∧ True))
        have HCV := Lib.hid (fun (r : Option Nat) (hr : ∀ b, r = some b → b < w.heap.size) => (fun b hb => Nat.lt_of_lt_of_le (hr b hb) hsz : ∀ b, r = some b → b < wr.heap.size))
        have HU := Lib.hid (fun b hb => (HO.out.lt b hb).2 : ∀ b, u5.ownBlock = some b → b < wr.heap.size)
        have HSUK := Lib.hid hsu
        have HQ := Lib.hid hck
        obtain ⟨xr, hxr⟩ := ExtW.of (Ext.refl wr)
        have HX := Lib.hid xr.h
        have hxs := xr.h.size
        clear hF0 hsu HIH HSU HSL hn hck
        conv => arg 5; rw [hxr]
        clear hxr
        go_upto_region 8 with (fail)
        have HLT := Lib.hid hlt2
        clear r0 hn5 heq hlt hlt' hlt2
        go_region_held3 (fun z => z.cell? ⟨rb, ro + k, none⟩ = some (.int .i64 n) ∧ True)
          (first | exact HS4.out | (refine HS0.out _ ?_; repeat (first | with_reducible exact HX.out | with_reducible exact StpK.out (by assumption) | with_reducible refine Ext.alloc ?_ _ | with_reducible refine Ext.drew ?_ | with_reducible refine Ext.trans ?_ (StpK.out (by assumption)))))
          (first
            | (refine guard_op (.call { callee := .builtin .append, args := #[.tmp 28, .tmp 29], argTypes := #[23, 23] }) ?_ ?_; exact rfl; refine step_ints_of (w0 := wr) rfl (.tmp 28) (.tmp 29) rfl _ rfl (by first | with_reducible exact own_drewK (own_madeK (by first | with_reducible rfl | (simp only [size_alloc]; done) | (simp only [size_alloc, size_drewK]; omega) | omega)) | with_reducible exact own_madeK (by first | with_reducible rfl | (simp only [size_alloc]; done) | (simp only [size_alloc, size_drewK]; omega) | omega) | with_reducible exact World.ownsRow.alloc (own_drewK (own_madeK (by first | with_reducible rfl | (simp only [size_alloc]; done) | (simp only [size_alloc, size_drewK]; omega) | omega))) _ | with_reducible exact own_drewK (World.ownsRow.alloc (own_drewK (own_madeK (by first | with_reducible rfl | (simp only [size_alloc]; done) | (simp only [size_alloc, size_drewK]; omega) | omega))) _) | with_reducible exact World.ownsRow.alloc (own_madeK (by first | with_reducible rfl | (simp only [size_alloc]; done) | (simp only [size_alloc, size_drewK]; omega) | omega)) _ | with_reducible exact own_drewK (World.ownsRow.alloc (own_madeK (by first | with_reducible rfl | (simp only [size_alloc]; done) | (simp only [size_alloc, size_drewK]; omega) | omega)) _)) p first c rfl (HPW.out.ext (by repeat (first | with_reducible exact HX.out | with_reducible exact StpK.out (by assumption) | with_reducible refine Ext.alloc ?_ _ | with_reducible refine Ext.drew ?_ | with_reducible refine Ext.trans ?_ (StpK.out (by assumption))))) (by repeat (first | with_reducible exact HX.out | with_reducible exact StpK.out (by assumption) | with_reducible refine Ext.alloc ?_ _ | with_reducible refine Ext.drew ?_ | with_reducible refine Ext.trans ?_ (StpK.out (by assumption)))) ?_ (by omega) ?_; (try simp only [size_alloc, size_drewK]); omega; intro v1 w1 ho1 hE1; have hS1 := StpK.mk hE1; have HO1 := Lib.hid ho1; clear ho1 hE1)
            | (refine guard_op (.call { callee := .builtin .append, args := #[.tmp 30, .tmp 35], argTypes := #[23, 23] }) ?_ ?_; exact rfl; refine step_ints_snoc (w0 := wr) rfl (.tmp 30) (.tmp 35) rfl v1 first rfl (ownsRow_ext HO1.out (by repeat (first | with_reducible exact Ext.refl _ | with_reducible refine Ext.alloc ?_ _ | with_reducible refine Ext.drew ?_ | with_reducible refine Ext.trans ?_ (StpK.out (by assumption))))) _ n rfl (one_cellE (by repeat (first | with_reducible exact Ext.refl _ | with_reducible refine Ext.alloc ?_ _ | with_reducible refine Ext.drew ?_ | with_reducible refine Ext.trans ?_ (StpK.out (by assumption)))) (by first | with_reducible rfl | (simp only [size_alloc]; done) | (simp only [size_alloc, size_drewK]; omega) | omega)) (by repeat (first | with_reducible exact HX.out | with_reducible exact StpK.out (by assumption) | with_reducible refine Ext.alloc ?_ _ | with_reducible refine Ext.drew ?_ | with_reducible refine Ext.trans ?_ (StpK.out (by assumption)))) (by omega) ?_; intro q2 c2 w2 hn2 hS2; have HN2 := Lib.hid hn2; clear hn2 hS1 HO1)
            | (go_at_call 70; refine (HIH3.out _ _ _ (HV.out.ext (HEW.out.trans (by repeat (first | with_reducible exact HX.out | with_reducible exact StpK.out (by assumption) | with_reducible refine Ext.alloc ?_ _ | with_reducible refine Ext.drew ?_ | with_reducible refine Ext.trans ?_ (StpK.out (by assumption)))))) ((HN2.out none (fun b hb => by cases hb)).ints.ext (by repeat (first | with_reducible exact Ext.refl _ | with_reducible refine Ext.alloc ?_ _ | with_reducible refine Ext.drew ?_ | with_reducible refine Ext.trans ?_ (StpK.out (by assumption)))))).mono ?_; rintro e w3 ⟨v3, vs3, rfl, hE3, hF3⟩; have hG3 := (fun r h1 => (hF3 r (fun b hb => Nat.lt_of_lt_of_le (h1 b hb) (Ext.size (by repeat (first | with_reducible exact HX.out | with_reducible exact StpK.out (by assumption) | with_reducible refine Ext.alloc ?_ _ | with_reducible refine Ext.drew ?_ | with_reducible refine Ext.trans ?_ (StpK.out (by assumption)))))) ((HN2.out r h1).ext (by repeat (first | with_reducible exact Ext.refl _ | with_reducible refine Ext.alloc ?_ _ | with_reducible refine Ext.drew ?_ | with_reducible refine Ext.trans ?_ (StpK.out (by assumption)))))).base (Ext.size (by repeat (first | with_reducible exact HX.out | with_reducible exact StpK.out (by assumption) | with_reducible refine Ext.alloc ?_ _ | with_reducible refine Ext.drew ?_ | with_reducible refine Ext.trans ?_ (StpK.out (by assumption))))) : ∀ r : Option Nat, (∀ b, r = some b → b < wr.heap.size) → RwV w3 wr.heap.size v3 vs3 (prL T (first ++ [n])) r); obtain ⟨q3, cap3, rfl⟩ := (hG3 none (fun b hb => by cases hb)).slice; have HG3 := Lib.hid hG3; have HG0 := Lib.hid (hG3 none (fun b hb => by cases hb)); have hl3 : vs3.length ≤ 70 := (by rw [HG0.out.len, HWY.out]; exact hwl); have hS3 := StpK.mk hE3; clear hE3 hF3 hG3)
            | (refine guard_op (.call { callee := .builtin .append, args := #[.tmp 26, .tmp 37], argTypes := #[43, 43] }) ?_ ?_; exact rfl; refine step_append_any rfl (.tmp 26) (.tmp 37) 43 rfl w.heap.size 23 i1 (.slice none 0 0) 1 24 Tryz.underlying43 hi1 hz1 hy1 hb1 rfl (by decide) _ vs.length vs rfl (ownsRow_ext HO.out (by repeat (first | with_reducible exact HX.out | with_reducible exact StpK.out (by assumption) | with_reducible refine Ext.alloc ?_ _ | with_reducible refine Ext.drew ?_ | with_reducible refine Ext.trans ?_ (StpK.out (by assumption))))) q3 vs3.length cap3 vs3 rfl (by simp) (own_news (ownsRow_ext HG0.out.out (by repeat (first | with_reducible exact Ext.refl _ | with_reducible refine Ext.alloc ?_ _ | with_reducible refine Ext.drew ?_ | with_reducible refine Ext.trans ?_ (StpK.out (by assumption)))))) HG0.out.none_zero HG0.out.one (by unfold maxLen; omega) (by omega) (Nat.le_trans hsz (Ext.size (by repeat (first | with_reducible exact HX.out | with_reducible exact StpK.out (by assumption) | with_reducible refine Ext.alloc ?_ _ | with_reducible refine Ext.drew ?_ | with_reducible refine Ext.trans ?_ (StpK.out (by assumption)))))) ?_; intro v4 w4 hown4 hgr4 hat4; have hW4 : StpK w w4 := grown_step (HEW.out.trans (by repeat (first | with_reducible exact HX.out | with_reducible exact StpK.out (by assumption) | with_reducible refine Ext.alloc ?_ _ | with_reducible refine Ext.drew ?_ | with_reducible refine Ext.trans ?_ (StpK.out (by assumption))))) hgr4 (fun j hj => (HO.out.lt j hj).1); have HF4 := Lib.hid (fun r hr hne => rw_grow (HF.out r hr hne) (by repeat (first | with_reducible exact HX.out | with_reducible exact StpK.out (by assumption) | with_reducible refine Ext.alloc ?_ _ | with_reducible refine Ext.drew ?_ | with_reducible refine Ext.trans ?_ (StpK.out (by assumption)))) ((HG3.out _ HU.out).ext (by repeat (first | with_reducible exact Ext.refl _ | with_reducible refine Ext.alloc ?_ _ | with_reducible refine Ext.drew ?_ | with_reducible refine Ext.trans ?_ (StpK.out (by assumption))))) ((HG3.out r (HCV.out r hr)).ext (by repeat (first | with_reducible exact Ext.refl _ | with_reducible refine Ext.alloc ?_ _ | with_reducible refine Ext.drew ?_ | with_reducible refine Ext.trans ?_ (StpK.out (by assumption))))) hown4 hgr4 hat4); have HS4 := Lib.hid (⟨hW4.out.cell HQ.out, trivial⟩ : w4.cell? ⟨rb, ro + k, none⟩ = some (.int .i64 n) ∧ True); clear hown4 hgr4 hat4))
        all_goals
          go_wp2
          go_roundw
          case rel =>
            refine ⟨k + 1, HLT.out, by simp, hW4.out, vs ++ vs3, fun r hr hne => ?_⟩
            rw [HSUK.out]
            exact HF4.out r hr hne
          case measure => have := HLT.out; simp [intOf]; omega
      · obtain rfl : k = s.length := by omega
        have hgt : ¬((s.length : Int) < (s.length : Int)) := by omega
        go_wp2
        go_ret
        refine ⟨_, vs, rfl, HEW.out, fun r hr hne => ?_⟩
        have hF := HF.out r hr hne
        rw [HAL.out] at hF
        exact hF
/-- all truths -/
theorem rtruthsAll06 (T : Tab) (hT : TabR T) (q : Option Addr) (cq : Nat) (w : World) (hv : ListsAt w q T) :
    Calls Tryz.prog 70 #[.slice q T.length cq, .slice none 0 0] w fun e w' => ∃ p c, e = .returned (.slice p (prL T []).length c) ∧ Ext w w' ∧ ListsAt w' p (prL T []) := by
  refine (rtruths06 T hT q cq T [] (by simp) rfl none 0 w hv (IntsAt.nil _ _)).mono ?_
  rintro e w' ⟨u, vs, rfl, hE, hF⟩
  have h := hF none (fun b hb => by cases hb) (fun j hj => absurd hj (by simp))
  obtain ⟨p, c, rfl, hl⟩ := h.lists
  exact ⟨p, c, rfl, hE, hl⟩
end Go.Proofs.YtaoamnhchidjfaaGreatDoor
