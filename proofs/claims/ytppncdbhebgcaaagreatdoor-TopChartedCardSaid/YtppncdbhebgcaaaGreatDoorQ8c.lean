
/- The walk of the reference's plays. -/
import Derived.Test.YtppncdbhebgcaaaGreatDoorQ8b
namespace Go.Proofs.YtppncdbhebgcaaaGreatDoor
open Go.RowKit

def PlPost (ws : List (Int × Int)) (p : Option Addr) (first : List Int) (w : World) (e : Ending) (w' : World) : Prop :=
  ∃ v vs, e = .returned v ∧ Ext w w' ∧ ∀ r : Option Nat, (∀ b, r = some b → b < w.heap.size) → IntsNe r w p first → RwV w' w.heap.size v vs (plL ws first) r

set_option maxRecDepth 100000 in
set_option maxHeartbeats 3200000 in
theorem rplays04 (M : Mt) (hM : ValidM M) :
    ∀ (ws : List (Int × Int)) (first : List Int), first.length + ws.length = M.weeks.length → M.weeks.drop first.length = ws → ∀ (v : Value) (p : Option Addr) (c : Nat) (w : World), MtV w v M → IntsAt w p first →
    Calls Tryz.prog 161 #[v, .slice p first.length c] w (PlPost ws p first w) := by
  intro ws
  induction ws with
  | nil =>
    intro first hd hr v p c w hv hp
    have HP := Lib.hid hp
    obtain ⟨p0, c0, qq, d, rfl, h0, h1⟩ := hv
    have heq : ((first.length : Int) == (M.weeks.length : Int)) = true := by rw [beq_iff_eq]; simp at hd; omega
    clear h0 h1 hp hr hd
    go_enter Tryz.func161, Tryz.ntmps161
    go_upto_region 1 with (fail)
    have hn := heap_new w (.cells #[.slice p0 M.weeks.length c0, .slice qq M.reads.length d, .int .i64 M.wrong] 55)
    obtain ⟨W, hW⟩ : ∃ W, W = w.alloc (.cells #[.slice p0 M.weeks.length c0, .slice qq M.reads.length d, .int .i64 M.wrong] 55) := ⟨_, rfl⟩
    have hE : Ext w W := by rw [hW]; exact Ext.alloc (Ext.refl w) _
    rw [← hW] at hn ⊢
    have q0 := cell_of_heap hn 0
    have HE := Lib.hid hE
    clear hW hn hE
    go_wp2
    go_ret
    refine ⟨_, [.slice p first.length c], rfl, HE.out.alloc _, fun r hr hne => ?_⟩
    have hsz := HE.out.size
    refine ⟨rfl, ownsRow_base (own_one W _ _) hsz, fun i hi => ?_, fun i hi => ?_⟩
    · obtain rfl : i = 0 := by simpa [plL] using hi
      exact ⟨p, c, rfl, ((HP.out.ext HE.out).ne (some W.heap.size) (fun b hb => by cases hb; exact Nat.le_refl _)).ext (Ext.alloc (Ext.refl W) _)⟩
    · obtain rfl : i = 0 := by simpa [plL] using hi
      exact ⟨p, c, rfl, hne.ext (HE.out.alloc _)⟩
  | cons s ws ih =>
    intro first hd hr v p c w hv hp
    have HV := Lib.hid hv
    have HP := Lib.hid hp
    have hn5 := hM.nw
    rw [List.length_cons] at hd
    have hlt : first.length < M.weeks.length := by omega
    have hsm : M.weeks[first.length] = s := by
      have := List.drop_eq_getElem_cons hlt
      rw [hr] at this
      exact (List.cons.inj this).1.symm
    have hwk := hM.week s (by rw [← hsm]; exact List.getElem_mem hlt)
    have hrest : M.weeks.drop (first.length + 1) = ws := by
      have := List.drop_eq_getElem_cons hlt
      rw [hr] at this
      exact (List.cons.inj this).2.symm
    have hwl : waysN ws ≤ 301 ^ 4 := Nat.le_trans (ways_le ws (fun x hx => hM.week x (List.mem_of_mem_drop (hrest ▸ hx)))) (Nat.pow_le_pow_right (by decide) (by omega))
    have hpw : (301 : Nat) ^ 4 = 8208541201 := by decide
    rw [hpw] at hwl
    obtain ⟨p0, c0, qq, d, rfl, h0, h1⟩ := hv
    obtain ⟨b, o, rfl, hc0, hc1⟩ := h0.at2 first.length hlt
    rw [hsm] at hc0 hc1
    have HIH := Lib.hid (fun (x : Int) v p c w' (h1 : MtV w' v M) (h2 : IntsAt w' p (first ++ [x])) => (by
      have := ih (first ++ [x]) (by rw [List.length_append, List.length_singleton]; omega) (by rw [List.length_append, List.length_singleton]; exact hrest) v p c w' h1 h2
      rwa [List.length_append, List.length_singleton] at this : Calls Tryz.prog 161 #[v, .slice p (first.length + 1) c] w' (PlPost ws p (first ++ [x]) w')))
    have heq : ((first.length : Int) == (M.weeks.length : Int)) = false := by rw [beq_eq_false_iff_ne]; omega
    obtain ⟨i0, hi0, hz0, hy0, hb0⟩ := info_parts info_a
    obtain ⟨i1, hi1, hz1, hy1, hb1⟩ := info_parts info_b
    have HWY := Lib.hid (fun f => plL_ways ws f)
    have HSU := Lib.hid (fun k => plTo_succ s ws first k)
    have HSL := Lib.hid (fun k => plTo_len s ws first k)
    obtain ⟨lo, hlo⟩ : ∃ lo, lo = s.1 := ⟨_, rfl⟩
    obtain ⟨hi, hhi⟩ : ∃ hi, hi = s.2 := ⟨_, rfl⟩
    rw [← hlo, ← hhi] at hwk
    rw [← hlo] at hc0 HSU
    rw [← hhi] at hc1
    obtain ⟨N, hN⟩ : ∃ N, N = (hi - lo + 1).toNat := ⟨_, rfl⟩
    have HAL := Lib.hid (show plTo s ws first N = plL (s :: ws) first from by rw [hN, hhi, hlo]; exact plTo_all s ws first)
    have hlt' : (first.length : Int) < (M.weeks.length : Int) := by omega
    obtain ⟨hw0, hw1, hw2⟩ := hwk
    clear h0 h1 hr hp ih hsm hrest hM hlo hhi hpw
    go_enter Tryz.func161, Tryz.ntmps161
    go_upto_region 1 with (fail)
    have hn := heap_new w (.cells #[.slice (some ⟨b, o, none⟩) M.weeks.length c0, .slice qq M.reads.length d, .int .i64 M.wrong] 55)
    obtain ⟨W1, hW1⟩ : ∃ W, W = w.alloc (.cells #[.slice (some ⟨b, o, none⟩) M.weeks.length c0, .slice qq M.reads.length d, .int .i64 M.wrong] 55) := ⟨_, rfl⟩
    have hE1 : Ext w W1 := by rw [hW1]; exact Ext.alloc (Ext.refl w) _
    rw [← hW1] at hn ⊢
    have q0 := cell_of_heap hn 0
    have q1 := cell_of_heap hn 1
    have q2 := cell_of_heap hn 2
    have e0 := hE1.cell hc0
    have e1 := hE1.cell hc1
    have hsz1 : W1.heap.size = w.heap.size + 1 := by rw [hW1]; exact size_alloc _ _
    have HN := Lib.hid hn
    have HE1 := Lib.hid hE1
    clear hW1 hn hE1 hc0 hc1
    go_upto_region 5 with (fail)
    obtain ⟨s6, hs6⟩ : ∃ s6, s6 = w.heap.size + 1 := ⟨_, rfl⟩
    obtain ⟨W, hW⟩ : ∃ W, W = W1.alloc (.cells #[.int .i64 lo, .int .i64 hi] 38) := ⟨_, rfl⟩
    have hE2 : Ext W1 W := by rw [hW]; exact Ext.alloc (Ext.refl _) _
    have m6 : W.heap[s6]? = some (.cells #[.int .i64 lo, .int .i64 hi] 38) := by rw [hW, hs6, ← hsz1]; exact heap_new _ _
    have hWs : w.heap.size ≤ W.heap.size := (HE1.out.trans hE2).size
    have hsW : w.heap.size < W.heap.size ∧ s6 < W.heap.size := ⟨(Array.getElem?_eq_some_iff.1 (heap_ext3 HN.out hE2)).1, (Array.getElem?_eq_some_iff.1 m6).1⟩
    rw [← hs6, ← hW]
    have HE := Lib.hid (HE1.out.trans hE2)
    have HQ := Lib.hid (fun (z : World) (hz : Ext W z) => (⟨cell_of_heap (heap_ext3 (heap_ext3 HN.out hE2) hz) 0, cell_of_heap (heap_ext3 (heap_ext3 HN.out hE2) hz) 1, cell_of_heap (heap_ext3 (heap_ext3 HN.out hE2) hz) 2, cell_of_heap (heap_ext3 m6 hz) 0, cell_of_heap (heap_ext3 m6 hz) 1⟩ :
        z.cell? ⟨w.heap.size, 0, none⟩ = some (.slice (some ⟨b, o, none⟩) M.weeks.length c0) ∧ z.cell? ⟨w.heap.size, 1, none⟩ = some (.slice qq M.reads.length d) ∧ z.cell? ⟨w.heap.size, 2, none⟩ = some (.int .i64 M.wrong) ∧ z.cell? ⟨s6, 0, none⟩ = some (.int .i64 lo) ∧ z.cell? ⟨s6, 1, none⟩ = some (.int .i64 hi)))
    have z0 := (HQ.out W (Ext.refl _)).2.2.2.1
    have HWS := Lib.hid hWs
    have HZW := Lib.hid hsW
    clear hW hs6 hE2 m6 hWs hsW q0 q1 q2 e0 e1 hsz1 HN HE1
    go_wp2
    go_loopw [5, 7] (fun u i wr => ∃ k : Nat, k ≤ N ∧ i = .int .i64 (lo + (k : Nat)) ∧ Ext W wr ∧
        ∃ vs, ∀ r : Option Nat, (∀ b, r = some b → b < w.heap.size) → IntsNe r w p first → RwV wr W.heap.size u vs (plTo s ws first k) r) (fun _ i _ => (hi + 1 - intOf i).toNat)
    case atStart => exact ⟨0, by omega, by simp, Ext.refl _, [], fun r _ _ => RwV.nil _ _ _⟩
    case round =>
      clear z0
      obtain ⟨k, hk, rfl, hE, vs, hF⟩ := hrel
      obtain ⟨z0, z1, z2, z3, z4⟩ := HQ.out wr hE
      have HEW := Lib.hid hE
      have HF := Lib.hid hF
      clear hE hF
      by_cases hlt2 : k < N
      · have hle : lo + (k : Nat) ≤ hi := by omega
        have r0 := ExtW.cell z0
        have r1 := ExtW.cell z1
        have r2 := ExtW.cell z2
        have r4 := ExtW.cell z4
        have HS0 := Lib.hid (fun (z : World) (hz : Ext wr z) => (⟨r0 ⟨z, hz⟩, r1 ⟨z, hz⟩, r2 ⟨z, hz⟩⟩ :
            z.cell? ⟨w.heap.size, 0, none⟩ = some (.slice (some ⟨b, o, none⟩) M.weeks.length c0) ∧ z.cell? ⟨w.heap.size, 1, none⟩ = some (.slice qq M.reads.length d) ∧ z.cell? ⟨w.heap.size, 2, none⟩ = some (.int .i64 M.wrong)))
        have hsz := HEW.out.size
        have HPW := Lib.hid (HP.out.ext (HE.out.trans HEW.out))
        have hF0 := HF.out none (fun b hb => by cases hb) (HP.out.ne none (fun b hb => by cases hb))
        have HO := Lib.hid hF0.out
        have hvl : vs.length ≤ 301 * 8208541201 := by rw [hF0.len, HSL.out]; exact Nat.mul_le_mul (by omega) hwl
        have hf5 : first.length ≤ 4 := by omega
        have HIH3 := Lib.hid (fun v p c w' (h1 : MtV w' v M) (h2 : IntsAt w' p (first ++ [lo + (k : Nat)])) => HIH.out (lo + (k : Nat)) v p c w' h1 h2)
        have hww : w.heap.size ≤ W.heap.size := HWS.out
        have HCV := Lib.hid (fun (r : Option Nat) (hr : ∀ b, r = some b → b < w.heap.size) => (fun b hb => Nat.lt_of_lt_of_le (hr b hb) (Nat.le_trans hww hsz) : ∀ b, r = some b → b < wr.heap.size))
        have HU := Lib.hid (fun b hb => (HO.out.lt b hb).2 : ∀ b, u5.ownBlock = some b → b < wr.heap.size)
        obtain ⟨n, hn⟩ : ∃ n, n = lo + (k : Nat) := ⟨_, rfl⟩
        have hsu := HSU.out k
        rw [← hn] at HIH3 hsu hle
        have HSUK := Lib.hid hsu
        have HNK := Lib.hid hn
        obtain ⟨xr, hxr⟩ := ExtW.of (Ext.refl wr)
        rw [← hn]
        have HX := Lib.hid xr.h
        have hxs := xr.h.size
        clear hF0 hww hsu HIH HSU HSL hn z0 z1 z2 z3 z4
        conv => arg 5; rw [hxr]
        clear hxr
        go_upto_region 8 with (fail)
        have HLE := Lib.hid hle
        have hwn : IntKind.i64.wrap (n + 1) = n + 1 := IntWalk.i64_in _ (by have := HLE.out; have := HNK.out; omega)
        clear r0 r1 r2 r4 hn5 heq hlt hlt' hle
        go_region_held3 (fun z => z.cell? ⟨w.heap.size, 0, none⟩ = some (.slice (some ⟨b, o, none⟩) M.weeks.length c0) ∧ z.cell? ⟨w.heap.size, 1, none⟩ = some (.slice qq M.reads.length d) ∧ z.cell? ⟨w.heap.size, 2, none⟩ = some (.int .i64 M.wrong))
          (first | exact HS4.out | (refine HS0.out _ ?_; repeat (first | with_reducible exact HX.out | with_reducible exact StpK.out (by assumption) | with_reducible refine Ext.alloc ?_ _ | with_reducible refine Ext.drew ?_ | with_reducible refine Ext.trans ?_ (StpK.out (by assumption)))))
          (first
            | (refine guard_op (.call { callee := .builtin .append, args := #[.tmp 32, .tmp 33], argTypes := #[23, 23] }) ?_ ?_; exact rfl; refine step_ints_of (w0 := wr) rfl (.tmp 32) (.tmp 33) rfl _ rfl (by first | with_reducible exact own_drewK (own_madeK (by first | with_reducible rfl | (simp only [size_alloc]; done) | (simp only [size_alloc, size_drewK]; omega) | omega)) | with_reducible exact own_madeK (by first | with_reducible rfl | (simp only [size_alloc]; done) | (simp only [size_alloc, size_drewK]; omega) | omega) | with_reducible exact World.ownsRow.alloc (own_drewK (own_madeK (by first | with_reducible rfl | (simp only [size_alloc]; done) | (simp only [size_alloc, size_drewK]; omega) | omega))) _ | with_reducible exact own_drewK (World.ownsRow.alloc (own_drewK (own_madeK (by first | with_reducible rfl | (simp only [size_alloc]; done) | (simp only [size_alloc, size_drewK]; omega) | omega))) _) | with_reducible exact World.ownsRow.alloc (own_madeK (by first | with_reducible rfl | (simp only [size_alloc]; done) | (simp only [size_alloc, size_drewK]; omega) | omega)) _ | with_reducible exact own_drewK (World.ownsRow.alloc (own_madeK (by first | with_reducible rfl | (simp only [size_alloc]; done) | (simp only [size_alloc, size_drewK]; omega) | omega)) _)) p first c rfl (HPW.out.ext (by repeat (first | with_reducible exact HX.out | with_reducible exact StpK.out (by assumption) | with_reducible refine Ext.alloc ?_ _ | with_reducible refine Ext.drew ?_ | with_reducible refine Ext.trans ?_ (StpK.out (by assumption))))) (by repeat (first | with_reducible exact HX.out | with_reducible exact StpK.out (by assumption) | with_reducible refine Ext.alloc ?_ _ | with_reducible refine Ext.drew ?_ | with_reducible refine Ext.trans ?_ (StpK.out (by assumption)))) ?_ (by omega) ?_; (try simp only [size_alloc, size_drewK]); omega; intro v1 w1 ho1 hE1; have hS1 := StpK.mk hE1; have HO1 := Lib.hid ho1; clear ho1 hE1)
            | (refine guard_op (.call { callee := .builtin .append, args := #[.tmp 34, .tmp 36], argTypes := #[23, 23] }) ?_ ?_; exact rfl; refine step_ints_snoc (w0 := wr) rfl (.tmp 34) (.tmp 36) rfl v1 first rfl (ownsRow_ext HO1.out (by repeat (first | with_reducible exact Ext.refl _ | with_reducible refine Ext.alloc ?_ _ | with_reducible refine Ext.drew ?_ | with_reducible refine Ext.trans ?_ (StpK.out (by assumption))))) _ n rfl (one_cellE (by repeat (first | with_reducible exact Ext.refl _ | with_reducible refine Ext.alloc ?_ _ | with_reducible refine Ext.drew ?_ | with_reducible refine Ext.trans ?_ (StpK.out (by assumption)))) (by first | with_reducible rfl | (simp only [size_alloc]; done) | (simp only [size_alloc, size_drewK]; omega) | omega)) (by repeat (first | with_reducible exact HX.out | with_reducible exact StpK.out (by assumption) | with_reducible refine Ext.alloc ?_ _ | with_reducible refine Ext.drew ?_ | with_reducible refine Ext.trans ?_ (StpK.out (by assumption)))) (by omega) ?_; intro q2 c2 w2 hn2 hS2; have HN2 := Lib.hid hn2; clear hn2 hS1 HO1)
            | (go_at_call 161; refine (HIH3.out _ _ _ _ (HV.out.ext ((HE.out.trans HEW.out).trans (by repeat (first | with_reducible exact HX.out | with_reducible exact StpK.out (by assumption) | with_reducible refine Ext.alloc ?_ _ | with_reducible refine Ext.drew ?_ | with_reducible refine Ext.trans ?_ (StpK.out (by assumption)))))) ((HN2.out none (fun b hb => by cases hb)).ints.ext (by repeat (first | with_reducible exact Ext.refl _ | with_reducible refine Ext.alloc ?_ _ | with_reducible refine Ext.drew ?_ | with_reducible refine Ext.trans ?_ (StpK.out (by assumption)))))).mono ?_; rintro e w3 ⟨v3, vs3, rfl, hE3, hF3⟩; have hG3 := (fun r h1 => (hF3 r (fun b hb => Nat.lt_of_lt_of_le (h1 b hb) (Ext.size (by repeat (first | with_reducible exact HX.out | with_reducible exact StpK.out (by assumption) | with_reducible refine Ext.alloc ?_ _ | with_reducible refine Ext.drew ?_ | with_reducible refine Ext.trans ?_ (StpK.out (by assumption)))))) ((HN2.out r h1).ext (by repeat (first | with_reducible exact Ext.refl _ | with_reducible refine Ext.alloc ?_ _ | with_reducible refine Ext.drew ?_ | with_reducible refine Ext.trans ?_ (StpK.out (by assumption)))))).base (Ext.size (by repeat (first | with_reducible exact HX.out | with_reducible exact StpK.out (by assumption) | with_reducible refine Ext.alloc ?_ _ | with_reducible refine Ext.drew ?_ | with_reducible refine Ext.trans ?_ (StpK.out (by assumption))))) : ∀ r : Option Nat, (∀ b, r = some b → b < wr.heap.size) → RwV w3 wr.heap.size v3 vs3 (plL ws (first ++ [n])) r); obtain ⟨q3, cap3, rfl⟩ := (hG3 none (fun b hb => by cases hb)).slice; have HG3 := Lib.hid hG3; have HG0 := Lib.hid (hG3 none (fun b hb => by cases hb)); have hl3 : vs3.length ≤ 8208541201 := (by rw [HG0.out.len, HWY.out]; exact hwl); have hS3 := StpK.mk hE3; clear hE3 hF3 hG3)
            | (refine guard_op (.call { callee := .builtin .append, args := #[.tmp 30, .tmp 38], argTypes := #[30, 30] }) ?_ ?_; exact rfl; refine step_append_any rfl (.tmp 30) (.tmp 38) 30 rfl W.heap.size 23 i1 (.slice none 0 0) 1 24 Tryz.underlying30 hi1 hz1 hy1 hb1 rfl (by decide) _ vs.length vs rfl (ownsRow_ext HO.out (by repeat (first | with_reducible exact HX.out | with_reducible exact StpK.out (by assumption) | with_reducible refine Ext.alloc ?_ _ | with_reducible refine Ext.drew ?_ | with_reducible refine Ext.trans ?_ (StpK.out (by assumption))))) q3 vs3.length cap3 vs3 rfl (by simp) (own_news (ownsRow_ext HG0.out.out (by repeat (first | with_reducible exact Ext.refl _ | with_reducible refine Ext.alloc ?_ _ | with_reducible refine Ext.drew ?_ | with_reducible refine Ext.trans ?_ (StpK.out (by assumption)))))) HG0.out.none_zero HG0.out.one (by unfold maxLen; omega) (by omega) (Nat.le_trans hsz (Ext.size (by repeat (first | with_reducible exact HX.out | with_reducible exact StpK.out (by assumption) | with_reducible refine Ext.alloc ?_ _ | with_reducible refine Ext.drew ?_ | with_reducible refine Ext.trans ?_ (StpK.out (by assumption)))))) ?_; intro v4 w4 hown4 hgr4 hat4; have hW4 : StpK W w4 := grown_step (HEW.out.trans (by repeat (first | with_reducible exact HX.out | with_reducible exact StpK.out (by assumption) | with_reducible refine Ext.alloc ?_ _ | with_reducible refine Ext.drew ?_ | with_reducible refine Ext.trans ?_ (StpK.out (by assumption))))) hgr4 (fun j hj => (HO.out.lt j hj).1); have HF4 := Lib.hid (fun r hr hne => rw_grow (HF.out r hr hne) (by repeat (first | with_reducible exact HX.out | with_reducible exact StpK.out (by assumption) | with_reducible refine Ext.alloc ?_ _ | with_reducible refine Ext.drew ?_ | with_reducible refine Ext.trans ?_ (StpK.out (by assumption)))) ((HG3.out _ HU.out).ext (by repeat (first | with_reducible exact Ext.refl _ | with_reducible refine Ext.alloc ?_ _ | with_reducible refine Ext.drew ?_ | with_reducible refine Ext.trans ?_ (StpK.out (by assumption))))) ((HG3.out r (HCV.out r hr)).ext (by repeat (first | with_reducible exact Ext.refl _ | with_reducible refine Ext.alloc ?_ _ | with_reducible refine Ext.drew ?_ | with_reducible refine Ext.trans ?_ (StpK.out (by assumption))))) hown4 hgr4 hat4); have HS4 := Lib.hid (⟨(HQ.out w4 hW4.out).1, (HQ.out w4 hW4.out).2.1, (HQ.out w4 hW4.out).2.2.1⟩ : w4.cell? ⟨w.heap.size, 0, none⟩ = some (.slice (some ⟨b, o, none⟩) M.weeks.length c0) ∧ w4.cell? ⟨w.heap.size, 1, none⟩ = some (.slice qq M.reads.length d) ∧ w4.cell? ⟨w.heap.size, 2, none⟩ = some (.int .i64 M.wrong)); clear hown4 hgr4 hat4))
        all_goals
          go_wp2
          go_roundw
          case rel =>
            refine ⟨k + 1, by omega, by have := HNK.out; simp; omega, hW4.out, vs ++ vs3, fun r hr hne => ?_⟩
            rw [HSUK.out]
            exact HF4.out r hr hne
          case measure => have := HLE.out; simp [intOf]; omega
      · obtain rfl : k = N := by omega
        have hgt : ¬(lo + (k : Nat) ≤ hi) := by omega
        go_wp2
        go_ret
        refine ⟨_, vs, rfl, HE.out.trans HEW.out, fun r hr hne => ?_⟩
        have hF := HF.out r hr hne
        rw [HAL.out] at hF
        exact hF.base HWS.out
end Go.Proofs.YtppncdbhebgcaaaGreatDoor
