/- The walk of the reference's fewest. -/
import Derived.Test.YtkcilgjkdiopnaaR3g
namespace Go.Proofs.Ytkcilgjkdiopnaa
open Go.RowKit

def goodTo (lim w0 : Int) (g : Nat → Int) (S : Nat) (k : Nat) : Bool := (List.range k).all fun j => decide (wornS w0 g S (j + 1) ≤ lim)
theorem goodTo_succ (lim w0 : Int) (g : Nat → Int) (S k : Nat) : goodTo lim w0 g S (k + 1) = (goodTo lim w0 g S k && decide (wornS w0 g S (k + 1) ≤ lim)) := by
  unfold goodTo
  rw [List.range_succ, List.all_append]
  simp
theorem goodTo_iff (lim w0 : Int) (g : Nat → Int) (S n : Nat) : goodTo lim w0 g S n = true ↔ GoodS lim w0 g S n := by
  unfold goodTo GoodS
  simp
/-- the fewest replacements among the first sets -/
def fewB (lim w0 : Int) (g : Nat → Int) (n : Nat) : Nat → Int
  | 0 => -1
  | S + 1 => if goodTo lim w0 g S n = true ∧ (fewB lim w0 g n S < 0 ∨ (popc S : Int) < fewB lim w0 g n S) then popc S else fewB lim w0 g n S
theorem fewB_bd (lim w0 : Int) (g : Nat → Int) (n : Nat) : ∀ S, -1 ≤ fewB lim w0 g n S ∧ fewB lim w0 g n S ≤ 6
  | 0 => by simp [fewB]
  | S + 1 => by
    have := fewB_bd lim w0 g n S
    have := popc_le S
    simp only [fewB]
    split <;> omega
theorem fewB_spec (lim w0 : Int) (g : Nat → Int) (n : Nat) : ∀ T, (fewB lim w0 g n T < 0 → ∀ S, S < T → ¬GoodS lim w0 g S n) ∧ (0 ≤ fewB lim w0 g n T → (∃ S, S < T ∧ GoodS lim w0 g S n ∧ (popc S : Int) = fewB lim w0 g n T) ∧ ∀ S, S < T → GoodS lim w0 g S n → fewB lim w0 g n T ≤ popc S)
  | 0 => ⟨fun _ S h => by omega, fun h => by simp [fewB] at h⟩
  | T + 1 => by
    obtain ⟨h1, h2⟩ := fewB_spec lim w0 g n T
    have hbd := fewB_bd lim w0 g n T
    simp only [fewB]
    by_cases hc : goodTo lim w0 g T n = true ∧ (fewB lim w0 g n T < 0 ∨ (popc T : Int) < fewB lim w0 g n T)
    · rw [if_pos hc]
      refine ⟨fun h => by omega, fun _ => ⟨⟨T, Nat.lt_succ_self _, (goodTo_iff ..).1 hc.1, rfl⟩, fun S hS hg => ?_⟩⟩
      by_cases e : S = T
      · subst e; exact Int.le_refl _
      · by_cases hn : fewB lim w0 g n T < 0
        · exact absurd hg (h1 hn S (by omega))
        · have := (h2 (by omega)).2 S (by omega) hg
          omega
    · rw [if_neg hc]
      refine ⟨fun h S hS hg => ?_, fun h => ?_⟩
      · by_cases e : S = T
        · subst e; exact hc ⟨(goodTo_iff ..).2 hg, Or.inl h⟩
        · exact h1 h S (by omega) hg
      · obtain ⟨⟨S0, a1, a2, a3⟩, h4⟩ := h2 h
        refine ⟨⟨S0, by omega, a2, a3⟩, fun S hS hg => ?_⟩
        by_cases e : S = T
        · subst e
          have : ¬((popc S : Int) < fewB lim w0 g n S) := fun hlt => hc ⟨(goodTo_iff ..).2 hg, Or.inr hlt⟩
          omega
        · exact h4 S (by omega) hg
/-- it is what the program's late says -/
theorem fewB_late {lim w0 : Int} {g : Nat → Int} {n : Nat} (hn : n ≤ 6) (h0 : 0 ≤ w0) (hg : ∀ k, 0 ≤ g k) : fewB lim w0 g n (2 ^ n) = match lateW lim w0 g n with
    | some x => (popc x : Int)
    | none => -1 := by
  obtain ⟨h1, h2⟩ := fewB_spec lim w0 g n (2 ^ n)
  have hbd := fewB_bd lim w0 g n (2 ^ n)
  cases hl : lateW lim w0 g n with
  | none =>
    by_cases hneg : fewB lim w0 g n (2 ^ n) < 0
    · simp only; omega
    · obtain ⟨⟨S, -, hS, -⟩, -⟩ := h2 (by omega)
      obtain ⟨x, hx, -⟩ := lateW_best hn h0 hg hS
      rw [hl] at hx; cases hx
  | some x =>
    obtain ⟨hx1, hx2, hx3⟩ := lateW_good hn hl
    by_cases hneg : fewB lim w0 g n (2 ^ n) < 0
    · exact absurd hx2 (h1 hneg x hx1)
    · obtain ⟨⟨S, hS1, hS2, hS3⟩, h3⟩ := h2 (by omega)
      have h4 := h3 x hx1 hx2
      obtain ⟨y, hy, hy2⟩ := lateW_best hn h0 hg hS2
      rw [hl] at hy
      cases hy
      rw [← popc_popTo hn hS1] at hy2
      simp only
      omega
theorem pow_i64 : ∀ n : Fin 7, IntKind.i64.wrap ((2 : Int) ^ n.1) = ((2 ^ n.1 : Nat) : Int) := by decide

theorem gr_at {W : World} {pg : Option Addr} {X : Wr} {N n k r : Nat} (h : ListsAt W pg (grL X N n)) (hk : k < n) (hr : r < X.recs.length) :
    ∃ lb lo gb g0 c, pg = some ⟨lb, lo, none⟩ ∧ W.cell? ⟨lb, lo + k, none⟩ = some (.slice (some ⟨gb, g0, none⟩) X.recs.length c) ∧ W.cell? ⟨gb, g0 + r, none⟩ = some (.int .i64 (grd X N k r)) := by
  obtain ⟨lb, lo, q, c, hp, hc, hi⟩ := h.at k (by rw [grL_len]; exact hk)
  have he : (grL X N n)[k]'(by rw [grL_len]; exact hk) = grRow X N k := by simp [grL]
  have hlen : (grRow X N k).length = X.recs.length := by simp [grRow, wornL]
  rw [he, hlen] at hc
  rw [he] at hi
  obtain ⟨gb, g0, rfl, hv⟩ := hi.at r (by rw [hlen]; exact hr)
  refine ⟨lb, lo, gb, g0, c, hp, hc, ?_⟩
  rw [hv]
  simp [grRow, wornL]
theorem wornS_hi {w0 : Int} {g : Nat → Int} {S : Nat} (h0 : 0 ≤ w0) (h1 : w0 ≤ 100000) (hg : ∀ k, 0 ≤ g k ∧ g k ≤ 9801) : ∀ k, wornS w0 g S k ≤ 100000 + 9801 * k
  | 0 => by simp only [wornS]; omega
  | k + 1 => by
    have := wornS_hi (S := S) h0 h1 hg k
    have := wornS_pos (S := S) h0 (fun j => (hg j).1) k
    have := hg k
    simp only [wornS]
    split <;> omega

set_option maxRecDepth 20000 in
set_option maxHeartbeats 16000000 in
theorem fewestR03 (v : Value) (X : Wr) (N r : Nat) (pg : Option Addr) (cg : Nat) (w : World) (hv : WrV w v X) (hX : ValidW X) (hr : r < X.recs.length) (hl : ListsAt w pg (grL X N X.weeks.toNat)) :
    Calls Try.prog 109 #[v, .slice pg X.weeks.toNat cg, .int .i64 r] w (RetE (.int .i64 (fewB (recW X r).limit (recW X r).worn (fun k => grd X N k r) X.weeks.toNat (2 ^ X.weeks.toNat))) w) := by
  have hx4 := hX.recs
  obtain ⟨n, hn⟩ : ∃ n : Nat, X.weeks = n := ⟨X.weeks.toNat, by have := hX.weeks; omega⟩
  have hn6 : n ≤ 6 := by have := hX.weeks; omega
  have hnt : X.weeks.toNat = n := by omega
  rw [hnt] at hl ⊢
  have HX := Lib.hid hX
  have HN := Lib.hid hn
  have HLL := Lib.hid hl
  obtain ⟨p, cp, q, d, rfl, -, hG⟩ := hv
  obtain ⟨rb, ro, q', c', rfl, h0, h1, -⟩ := hG r hr
  rw [show X.recs[r].worn = (recW X r).worn from by rw [recW_eq hr]] at h0
  rw [show X.recs[r].limit = (recW X r).limit from by rw [recW_eq hr]] at h1
  have hrb := rec_bd hX r
  obtain ⟨w0, hw0⟩ : ∃ w0, w0 = (recW X r).worn := ⟨_, rfl⟩
  obtain ⟨lim, hlim⟩ : ∃ lim, lim = (recW X r).limit := ⟨_, rfl⟩
  obtain ⟨gf, hgf⟩ : ∃ gf, gf = fun k => grd X N k r := ⟨_, rfl⟩
  rw [← hw0] at h0 hrb ⊢
  rw [← hlim] at h1 ⊢
  rw [← hgf]
  have hgb : ∀ k, 0 ≤ gf k ∧ gf k ≤ 9801 := fun k => by rw [hgf]; exact grd_bd hX N k r
  have HGB := Lib.hid hgb
  have HGF := Lib.hid hgf
  have H0 := Lib.hid h0
  have H1 := Lib.hid h1
  have hrI : (r : Int) < (X.recs.length : Int) := by omega
  have hpw := pow_i64 ⟨n, by omega⟩
  simp only at hpw
  obtain ⟨P2, hP2⟩ : ∃ P2, P2 = 2 ^ n := ⟨_, rfl⟩
  have hP64 : P2 ≤ 64 := by rw [hP2]; exact Nat.pow_le_pow_right (n := 2) (by decide) hn6
  rw [← hP2] at hpw ⊢
  have HW0 := Lib.hid (show 0 ≤ w0 ∧ w0 ≤ 100000 from by omega)
  clear hX hl hG h0 h1 hn hnt hw0 hlim hgf hgb hP2
  go_enter Try.func109, Try.ntmps109
  go_upto_region 1 with (fail)
  rw [HN.out]
  generalize hW : World.alloc _ _ = W
  have hb0 : W.heap[w.heap.size]? = some (.cells #[.int .i64 n, .int .i64 X.price, .int .i64 X.age, .int .i64 X.step, .slice p X.rough.length cp, .slice (some ⟨rb, ro, none⟩) X.recs.length d] 25) := by rw [← hW]; exact heap_new _ _
  have hE : Ext w W := by rw [← hW]; exact Ext.alloc (Ext.refl w) _
  have q0 := ExtW.cell (v := .int .i64 n) (cell_of_heap hb0 0)
  have q5 := ExtW.cell (v := .slice (some ⟨rb, ro, none⟩) X.recs.length d) (cell_of_heap hb0 5)
  have u0 := ExtW.cell (hE.cell H0.out)
  have u1 := ExtW.cell (hE.cell H1.out)
  have HL2 := Lib.hid (HLL.out.ext hE)
  have HE := Lib.hid hE
  have hH := fun (s t : Nat) (x : ExtW W) (h1 : s < 64) (h2 : t < 6) => ExtW.call (RetQ.e (hasR03 s t x.w h1 h2))
  have hMN := fun (s : Nat) (x : ExtW W) (h1 : s < 64) => ExtW.call (RetQ.e (manyR03 s x.w h1))
  have HH := Lib.hid hH
  have HMN := Lib.hid hMN
  obtain ⟨x0, hx0⟩ := ExtW.of (Ext.refl W)
  clear hW hb0 hE HLL hH hMN
  conv => arg 5; rw [hx0]
  clear hx0
  go_wp2
  go_loopw [7, 8] (fun b i wr => ∃ S : Nat, S ≤ P2 ∧ i = .int .i64 S ∧ b = .int .i64 (fewB lim w0 gf n S) ∧ ∃ x : ExtW W, wr = x.w) (fun _ i _ => P2 - (intOf i).toNat)
  case atStart => exact ⟨0, Nat.zero_le _, rfl, rfl, x0, rfl⟩
  case round =>
    clear x0
    obtain ⟨S, hS, rfl, rfl, x, rfl⟩ := hrel
    have hbd := fewB_bd lim w0 gf n S
    by_cases hlt : S < P2
    · have hltI : (S : Int) < (P2 : Int) := by omega
      obtain ⟨bs, hbs⟩ : ∃ bs, bs = fewB lim w0 gf n S := ⟨_, rfl⟩
      have HBS := Lib.hid hbs
      rw [← hbs] at hbd
      conv => arg 4; rw [← hbs]
      clear hbs
      go_wp2
      go_loopw [9, 10, 11] (fun a b i wr => ∃ k : Nat, k ≤ n ∧ i = .int .i64 k ∧ a = .int .i64 (wornS w0 gf S k) ∧ b = .bool (goodTo lim w0 gf S k) ∧ ∃ x : ExtW W, wr = x.w) (fun _ _ i _ => n - (intOf i).toNat)
      case atStart => exact ⟨0, Nat.zero_le _, rfl, rfl, rfl, x, rfl⟩
      case round =>
        clear x
        obtain ⟨k, hk, rfl, rfl, rfl, x, rfl⟩ := hrel
        have hws := wornS_pos (S := S) HW0.out.1 (fun j => (HGB.out j).1) k
        have hwh := wornS_hi (S := S) HW0.out.1 HW0.out.2 HGB.out k
        obtain ⟨ws, hwse⟩ : ∃ ws, ws = wornS w0 gf S k := ⟨_, rfl⟩
        obtain ⟨gd, hgde⟩ : ∃ gd, gd = goodTo lim w0 gf S k := ⟨_, rfl⟩
        rw [← hwse] at hws hwh
        conv => arg 4; rw [← hwse, ← hgde]
        by_cases hlk : k < n
        · have hlkI : (k : Int) < (n : Int) := by omega
          obtain ⟨lb, lo, gb, g0, gc, rfl, hl1, hl2⟩ := gr_at HL2.out hlk hr
          have t1 := ExtW.cell hl1
          have t2 := ExtW.cell hl2
          have hgk : grd X N k r = gf k := by rw [HGF.out]
          rw [hgk] at t2
          have hgkb := HGB.out k
          obtain ⟨gk, hgke⟩ : ∃ gk, gk = gf k := ⟨_, rfl⟩
          rw [← hgke] at t2 hgkb
          have HGK := Lib.hid hgke
          have HWS := Lib.hid hwse
          have HGD := Lib.hid hgde
          have hHk := fun x => HH.out S k x (by omega) (by omega)
          clear hgk hgke hwse hgde hl1 hl2
          by_cases hbit : S.testBit k = true
          · rw [hbit] at hHk
            have HBIT := Lib.hid hbit
            have HHk := Lib.hid hHk
            clear hHk hbit
            go_upto_region 11 with (go_at_call 120; refine (HHk.out _).mono ?_; rintro e w' ⟨rfl, x1, rfl⟩)
            obtain ⟨nw, hnw⟩ : ∃ nw, nw = 0 + gk := ⟨_, rfl⟩
            have HNW := Lib.hid hnw
            have hS1 : wornS w0 gf S (k + 1) = nw := by simp only [wornS]; rw [if_pos HBIT.out, hnw, HGK.out]
            have HG1 := Lib.hid (show goodTo lim w0 gf S (k + 1) = (gd && decide (nw ≤ lim)) from by rw [goodTo_succ, hS1, HGD.out])
            have HS1 := Lib.hid hS1
            clear hS1
            by_cases hle : nw ≤ lim
            · have HLE := Lib.hid hle
              cases gd with
              | true =>
                go_wp2
                go_roundw
                case rel => exact ⟨k + 1, by omega, by go_num, by rw [HS1.out, HNW.out]; (try go_num), by rw [HG1.out, HNW.out]; (try simp), _, rfl⟩
                case measure => simp [intOf]; omega
              | false =>
                go_wp2
                go_roundw
                case rel => exact ⟨k + 1, by omega, by go_num, by rw [HS1.out, HNW.out]; (try go_num), by rw [HG1.out, HNW.out]; (try simp), _, rfl⟩
                case measure => simp [intOf]; omega
            · have HLE := Lib.hid hle
              cases gd with
              | true =>
                go_wp2
                go_roundw
                case rel => exact ⟨k + 1, by omega, by go_num, by rw [HS1.out, HNW.out]; (try go_num), by rw [HG1.out, HNW.out]; (try simp), _, rfl⟩
                case measure => simp [intOf]; omega
              | false =>
                go_wp2
                go_roundw
                case rel => exact ⟨k + 1, by omega, by go_num, by rw [HS1.out, HNW.out]; (try go_num), by rw [HG1.out, HNW.out]; (try simp), _, rfl⟩
                case measure => simp [intOf]; omega
          · rw [show S.testBit k = false from by simpa using hbit] at hHk
            have HBIT := Lib.hid hbit
            have HHk := Lib.hid hHk
            clear hHk hbit
            go_upto_region 11 with (go_at_call 120; refine (HHk.out _).mono ?_; rintro e w' ⟨rfl, x1, rfl⟩)
            obtain ⟨nw, hnw⟩ : ∃ nw, nw = ws + gk := ⟨_, rfl⟩
            have HNW := Lib.hid hnw
            have hS1 : wornS w0 gf S (k + 1) = nw := by simp only [wornS]; rw [if_neg HBIT.out, hnw, HGK.out]; rw [HWS.out]
            have HG1 := Lib.hid (show goodTo lim w0 gf S (k + 1) = (gd && decide (nw ≤ lim)) from by rw [goodTo_succ, hS1, HGD.out])
            have HS1 := Lib.hid hS1
            clear hS1
            by_cases hle : nw ≤ lim
            · have HLE := Lib.hid hle
              cases gd with
              | true =>
                go_wp2
                go_roundw
                case rel => exact ⟨k + 1, by omega, by go_num, by rw [HS1.out, HNW.out]; (try go_num), by rw [HG1.out, HNW.out]; (try simp), _, rfl⟩
                case measure => simp [intOf]; omega
              | false =>
                go_wp2
                go_roundw
                case rel => exact ⟨k + 1, by omega, by go_num, by rw [HS1.out, HNW.out]; (try go_num), by rw [HG1.out, HNW.out]; (try simp), _, rfl⟩
                case measure => simp [intOf]; omega
            · have HLE := Lib.hid hle
              cases gd with
              | true =>
                go_wp2
                go_roundw
                case rel => exact ⟨k + 1, by omega, by go_num, by rw [HS1.out, HNW.out]; (try go_num), by rw [HG1.out, HNW.out]; (try simp), _, rfl⟩
                case measure => simp [intOf]; omega
              | false =>
                go_wp2
                go_roundw
                case rel => exact ⟨k + 1, by omega, by go_num, by rw [HS1.out, HNW.out]; (try go_num), by rw [HG1.out, HNW.out]; (try simp), _, rfl⟩
                case measure => simp [intOf]; omega
        · obtain rfl : k = n := by omega

          have HSB := Lib.hid (show fewB lim w0 gf k (S + 1) = if gd = true ∧ (bs < 0 ∨ (popc S : Int) < bs) then (popc S : Int) else bs from by rw [hgde, HBS.out]; rfl)
          have hpc := popc_le S
          have hMn := fun x => HMN.out S x (by omega)
          obtain ⟨pc, hpce⟩ : ∃ pc, pc = popc S := ⟨_, rfl⟩
          rw [← hpce] at hMn hpc HSB
          have HMn := Lib.hid hMn
          clear hpce hMn hwse hgde
          cases gd with
          | false =>
            go_wp2
            go_roundw
            case rel => exact ⟨S + 1, by omega, by go_num, by rw [HSB.out]; simp, _, rfl⟩
            case measure => simp [intOf]; omega
          | true =>
            by_cases hb0 : bs < 0
            · have HB0 := Lib.hid hb0
              go_upto_region 4 with (go_at_call 108; refine (HMn.out _).mono ?_; rintro e w' ⟨rfl, x1, rfl⟩)
              go_wp2
              go_roundw
              case rel => exact ⟨S + 1, by omega, by go_num, by rw [HSB.out]; simp [HB0.out], _, rfl⟩
              case measure => simp [intOf]; omega
            · have HB0 := Lib.hid hb0
              by_cases hpb : (pc : Int) < bs
              · have HPB := Lib.hid hpb
                go_upto_region 4 with (go_at_call 108; refine (HMn.out _).mono ?_; rintro e w' ⟨rfl, x1, rfl⟩)
                go_wp2
                go_roundw
                case rel => exact ⟨S + 1, by omega, by go_num, by rw [HSB.out]; simp [HPB.out], _, rfl⟩
                case measure => simp [intOf]; omega
              · have HPB := Lib.hid hpb
                go_upto_region 4 with (go_at_call 108; refine (HMn.out _).mono ?_; rintro e w' ⟨rfl, x1, rfl⟩)
                go_wp2
                go_roundw
                case rel => exact ⟨S + 1, by omega, by go_num, by rw [HSB.out, if_neg (fun h => by have h1 := HB0.out; have h2 := HPB.out; omega)], _, rfl⟩
                case measure => simp [intOf]; omega
    · obtain rfl : S = P2 := by omega
      go_wp2
      go_ret
      exact RetE.fin (HE.out.trans x.h) rfl
end Go.Proofs.Ytkcilgjkdiopnaa
