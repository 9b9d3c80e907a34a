/- The walks of has, many and late. -/
import Derived.Test.YtkcilgjkdiopnaaE03c
import Derived.Test.YtkcilgjkdiopnaaOwn
namespace Go.Proofs.Ytkcilgjkdiopnaa
open Go.RowKit

theorem has_spell (s t : Nat) (hs2 : s < 18446744073709551616) : (bits BinOp.and IntKind.u64 ((s : Int) / 2 ^ t) 1 == 1) = s.testBit t := by
  have h1 : ((s : Int) / 2 ^ t) = ((s / 2 ^ t : Nat) : Int) := by simp
  have h2 : s / 2 ^ t < 18446744073709551616 := Nat.lt_of_le_of_lt (Nat.div_le_self _ _) hs2
  rw [h1, show (1 : Int) = ((1 : Nat) : Int) from rfl, bits_and_u64_nat _ _ h2 (by decide), Nat.testBit_eq_decide_div_mod_eq, Nat.and_one_is_mod]
  generalize s / 2 ^ t % 2 = x
  by_cases hx : x = 1
  · simp [hx]
  · simp [hx]; omega
theorem wrap_pow : ∀ x : Nat, x < 7 → IntKind.u64.wrap ((2 : Int) ^ x) = ((2 ^ x : Nat) : Int) := by decide

set_option maxHeartbeats 400000 in
theorem has03 (s : Nat) (t : Nat) (w : World) (hs1 : s < 64) (ht2 : t < 64) :
    Calls Try.prog 77 #[.int .u64 s, .int .i64 t] w (RetQ (.bool (s.testBit t)) w) := by
  have hs2 : s < 18446744073709551616 := by omega
  go_enter Try.func77, Try.ntmps77
  go_wp2
  go_ret
  exact RetQ.fin (by repeat (first | exact Qt.refl _ | assumption | refine Qt.drewN ?_ _ | refine Qt.drew ?_)) (congrArg Value.bool (has_spell s t hs2))

set_option maxHeartbeats 1000000 in
set_option maxRecDepth 10000 in
theorem OnesCount64_03 (s : Nat) (w : World) (hs2 : s < 64) :
    Calls Try.prog 111 #[.int .u64 s] w (RetQ (.int .i64 (popc s)) w) := by
  go_enter Try.func111, Try.ntmps111
  go_wp2
  go_ret
  refine RetQ.fin (by repeat (first | exact Qt.refl _ | assumption | refine Qt.drewN ?_ _ | refine Qt.drew ?_)) (congrArg (Value.int .i64) ?_)
  revert s
  decide +kernel

set_option maxHeartbeats 400000 in
theorem OnesCount_03 (s : Nat) (w : World) (hs2 : s < 64) :
    Calls Try.prog 98 #[.int .u64 s] w (RetQ (.int .i64 (popc s)) w) := by
  go_enter Try.func98, Try.ntmps98
  go_wp2_with (go_at_call 111; refine (OnesCount64_03 s _ hs2).mono ?_; rintro e w' ⟨rfl, m, rfl⟩)
  go_ret
  exact RetQ.fin (by repeat (first | exact Qt.refl _ | assumption | refine Qt.drewN ?_ _ | refine Qt.drew ?_)) rfl

set_option maxHeartbeats 400000 in
theorem many03 (s : Nat) (w : World) (hs2 : s < 64) :
    Calls Try.prog 74 #[.int .u64 s] w (RetQ (.int .i64 (popc s)) w) := by
  go_enter Try.func74, Try.ntmps74
  go_wp2_with (go_at_call 98; refine (OnesCount_03 s _ hs2).mono ?_; rintro e w' ⟨rfl, m, rfl⟩)
  go_ret
  exact RetQ.fin (by repeat (first | exact Qt.refl _ | assumption | refine Qt.drewN ?_ _ | refine Qt.drew ?_)) rfl

/-- what late returns -/
def lateV (r : Rec) (gs : List Int) : Value := match lateW r.limit r.worn (fun k => gs.getD k 0) gs.length with
  | some x => .tuple #[.int .u64 x, .bool true]
  | none => .tuple #[.int .u64 0, .bool false]

set_option maxRecDepth 20000 in
set_option maxHeartbeats 1600000 in
theorem late03 (v : Value) (r : Rec) (q : Option Addr) (gs : List Int) (c : Nat) (w : World) (hv : RecV w v r) (hr : 0 ≤ r.worn ∧ r.worn ≤ 99999) (hn : gs.length ≤ 6) (hg : ∀ k, 0 ≤ gs.getD k 0 ∧ gs.getD k 0 ≤ 9801) (h : IntsAt w q gs) :
    Calls Try.prog 106 #[v, .slice q gs.length c] w (RetE (lateV r gs) w) := by
  obtain ⟨rp, rc, rfl, -⟩ := hv
  obtain ⟨n, hnn⟩ : ∃ n, n = gs.length := ⟨_, rfl⟩
  have HG := Lib.hid hg
  have HR := Lib.hid hr
  clear hg
  go_enter Try.func106, Try.ntmps106
  go_upto_region 1 with (fail)
  have hn1 := heap_new w (.cells #[.int .i64 r.worn, .int .i64 r.limit, .int .i64 r.price, .slice rp r.plays.length rc] 54)
  obtain ⟨W, hW⟩ : ∃ W, W = w.alloc (.cells #[.int .i64 r.worn, .int .i64 r.limit, .int .i64 r.price, .slice rp r.plays.length rc] 54) := ⟨_, rfl⟩
  have hE : Ext w W := by rw [hW]; exact Ext.alloc (Ext.refl w) _
  rw [← hW] at hn1 ⊢
  have q0 := ExtW.cell (v := .int .i64 r.worn) (cell_of_heap hn1 0)
  have q1 := ExtW.cell (v := .int .i64 r.limit) (cell_of_heap hn1 1)
  have kh := h.ext hE
  obtain ⟨x0, hx0⟩ := ExtW.of (Ext.refl W)
  clear hW hn1 h
  conv => arg 5; rw [hx0]
  clear hx0 hnn
  go_wp2
  go_loopw [4, 6, 13] (fun xv wv i wr => ∃ (k : Nat) (wn : Int) (m : Nat), k ≤ gs.length ∧ i = .int .i64 k ∧ wv = .int .i64 wn ∧ xv = .int .u64 m ∧ lateTo r.limit r.worn (fun k => gs.getD k 0) k = some (wn, m) ∧ ∃ x : ExtW W, wr = x.w) (fun _ _ i _ => gs.length - (intOf i).toNat)
  case atStart => exact ⟨0, r.worn, 0, by omega, rfl, rfl, rfl, rfl, x0, rfl⟩
  case round =>
    clear x0
    obtain ⟨k, wn, m, hk, rfl, rfl, rfl, hlt, x, rfl⟩ := hrel
    have hbd := lateTo_bd HR.out HG.out k wn m hlt
    have HLT := Lib.hid hlt
    clear hlt
    by_cases hlk : k < gs.length
    · obtain ⟨b, o, rfl, hc⟩ := kh.at k hlk
      have rc := ExtW.cell hc
      have hgd : gs.getD k 0 = gs[k] := by simp [List.getD, hlk]
      have hgb := HG.out k
      rw [hgd] at hgb
      obtain ⟨gk, hgk⟩ : ∃ gk, gk = gs[k] := ⟨_, rfl⟩
      rw [← hgk] at rc hgb hgd
      have hsn : Hid (lateTo r.limit r.worn (fun k => gs.getD k 0) (k + 1) = if r.limit < gk then none else if r.limit < wn + gk then some (gk, m ||| 2 ^ k) else some (wn + gk, m)) := by
        show (match lateTo r.limit r.worn (fun k => gs.getD k 0) k with | none => none | some (w, x) => if r.limit < gs.getD k 0 then none else if r.limit < w + gs.getD k 0 then some (gs.getD k 0, x ||| 2 ^ k) else some (w + gs.getD k 0, x)) = _
        rw [HLT.out, hgd]
      clear hc hgd hgk
      by_cases h1 : r.limit < gk
      · have h1' : decide (r.limit < gk) = true := by simpa using h1
        have H1 := Lib.hid h1
        clear h1
        go_wp2
        go_ret2
        refine RetE.fin (hE.trans x.h) ?_
        have key : ∀ j, lateTo r.limit r.worn (fun k => gs.getD k 0) (k + 1 + j) = none := by
          intro j
          induction j with
          | zero => rw [Nat.add_zero, hsn.out, if_pos (by have := H1.out; omega)]
          | succ j ih => rw [← Nat.add_assoc]; simp only [lateTo, ih]
        have := key (gs.length - (k + 1))
        rw [show k + 1 + (gs.length - (k + 1)) = gs.length from by omega] at this
        simp only [lateV, lateW, this, Option.map_none]
        rfl
      · have h1' : decide (r.limit < gk) = false := by simpa using h1
        have H1 := Lib.hid h1
        clear h1
        have hwr : IntKind.i64.wrap (wn + gk) = wn + gk := IntWalk.i64_in _ (by omega)
        by_cases h2 : r.limit < wn + gk
        · have h2' : decide (r.limit < wn + gk) = true := by simpa using h2
          have H2 := Lib.hid h2
          have hpw := wrap_pow k (by omega)
          have h64 : 2 ^ k < 64 := Nat.pow_lt_pow_right (n := 6) (a := 2) (by decide) (by omega)
          have hm64 : m < 64 := by omega
          obtain ⟨P2, hP2⟩ : ∃ P2 : Nat, P2 = 2 ^ k := ⟨_, rfl⟩
          rw [← hP2] at hpw h64
          have hor := bits_or_u64_nat m P2 (by omega) (by omega)
          have HP2 := Lib.hid hP2
          have HBD := Lib.hid hbd
          clear h2 hP2 hbd
          go_wp2
          refine wp_region_extW (by kernel_rfl) (by kernel_rfl) ?_
          repeat (go_big_quiet_step (fail))
          refine wpQuiet_nil ?_
          rintro _ ⟨x2, rfl⟩
          go_wp2
          go_roundw
          case rel => exact ⟨k + 1, gk, m ||| P2, by omega, by go_num, rfl, by first | rfl | (rw [hpw, hor]), by rw [hsn.out, if_neg (by have := H1.out; omega), if_pos (by have := H2.out; omega), HP2.out], x2, rfl⟩
          case measure => simp [intOf]; omega
        · have h2' : decide (r.limit < wn + gk) = false := by simpa using h2
          have H2 := Lib.hid h2
          clear h2
          go_wp2
          go_roundw
          case rel => exact ⟨k + 1, wn + gk, m, by omega, by go_num, by first | rfl | (rw [hwr]), rfl, by rw [hsn.out, if_neg (by have := H1.out; omega), if_neg (by have := H2.out; omega)], x, rfl⟩
          case measure => simp [intOf]; omega
    · obtain rfl : k = gs.length := by omega
      go_wp2
      go_ret2
      refine RetE.fin (hE.trans x.h) ?_
      simp only [lateV, lateW, HLT.out, Option.map_some]
      rfl
end Go.Proofs.Ytkcilgjkdiopnaa
