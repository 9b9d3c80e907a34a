/- The walks of plans and each: all plans that fit, one after another. -/
import Derived.Test.YtpgjkmjejpfkmaaW07d
import Derived.Test.YtpgjkmjejpfkmaaRng
namespace Go.Proofs.Ytpgjkmjejpfkmaa
open Go.RowKit
attribute [local go_sem] Oper.semAt_some

def upd (f : Nat → Nat) (k s : Nat) : Nat → Nat := fun j => if j = k then s else f j
theorem upd_upd (f : Nat → Nat) (k s t : Nat) : upd (upd f k s) k t = upd f k t := by
  funext j; unfold upd; split <;> rfl
theorem upd_lt {f : Nat → Nat} {k s : Nat} (hf : ∀ j, j < 3 → f j < 64) (hs : s < 64) : ∀ j, j < 3 → upd f k s j < 64 := by
  intro j hj; unfold upd; split
  · exact hs
  · exact hf j hj

def okP (f : Nat → Nat) : Prop := ∀ j, j < 3 → f j < 64

/-- the plans that one set of titles gives, and those of the first so many sets -/
noncomputable def plansL (V : Visit) : Nat → (Nat → Nat) → Nat → List (Nat → Nat)
  | 0, f, _ => [f]
  | d + 1, f, k => (List.range (2 ^ V.S.stock.length)).flatMap fun s =>
      if popc s = (V.S.boxes.getD k []).length ∧ bP (FitsTo V (upd f k s) (k + 1)) = true then plansL V d (upd f k s) (k + 1) else []

noncomputable def plansTo (V : Visit) (d : Nat) (f : Nat → Nat) (k n : Nat) : List (Nat → Nat) := (List.range n).flatMap fun s =>
      if popc s = (V.S.boxes.getD k []).length ∧ bP (FitsTo V (upd f k s) (k + 1)) = true then plansL V d (upd f k s) (k + 1) else []
theorem plansTo_succ (V : Visit) (d : Nat) (f : Nat → Nat) (k n : Nat) : plansTo V d f k (n + 1) = plansTo V d f k n ++
      if popc n = (V.S.boxes.getD k []).length ∧ bP (FitsTo V (upd f k n) (k + 1)) = true then plansL V d (upd f k n) (k + 1) else [] := by
  unfold plansTo
  rw [List.range_succ, List.flatMap_append]
  simp only [List.flatMap_cons, List.flatMap_nil, List.append_nil]

def box3 (g : Nat → Nat) : Obj := .cells #[.int .u64 (g 0), .int .u64 (g 1), .int .u64 (g 2)] 78
theorem box3_set {w : World} {B k : Nat} {g : Nat → Nat} (h : w.heap[B]? = some (box3 g)) (hk : k < 3) (n s : Nat) : ((w.drewN n).setCell ⟨B, k, none⟩ (.int .u64 s)).heap[B]? = some (box3 (upd g k s)) := by
  have hb : B < w.heap.size := (Array.getElem?_eq_some_iff.1 h).1
  have hh : (w.drewN n).heap[B]? = some (box3 g) := h
  simp only [World.setCell, Array.getElem?_modify, hh]
  unfold box3
  obtain rfl | rfl | rfl : k = 0 ∨ k = 1 ∨ k = 2 := by omega
  all_goals rfl
theorem box3_cell {w : World} {B : Nat} {g : Nat → Nat} (h : w.heap[B]? = some (box3 g)) (k : Nat) (hk : k < 3) : w.cell? ⟨B, k, none⟩ = some (.int .u64 (g k)) := by
  rw [cell_of_heap h]
  obtain rfl | rfl | rfl : k = 0 ∨ k = 1 ∨ k = 2 := by omega
  all_goals rfl
theorem box3_frozen {w : World} {B : Nat} {g : Nat → Nat} (h : w.heap[B]? = some (box3 g)) (k : Nat) : w.frozen? ⟨B, k, none⟩ = false := by
  simp [World.frozen?, h, box3]

set_option maxHeartbeats 400000 in
theorem plans07 (V : Visit) (hO : VOK V) (b l B0 B1 : Nat) (w0 : World) (hV0 : VisitAt w0 b V) (hB0 : w0.heap.size ≤ B0) (J : List (Nat → Nat) → World → Prop)
    (hJ : ∀ pre W W', J pre W → Below B1 W W' → J pre W') (hY : YieldAll Try.prog l pl3 okP B0 B1 J) :
    ∀ (d k : Nat) (f : Nat → Nat) (pre : List (Nat → Nat)) (W : World), d + k = V.S.boxes.length → (∀ j, j < 3 → f j < 64) → Ext w0 W → B1 ≤ W.heap.size → J pre W →
    Calls Try.prog 87 #[.pointer (some ⟨b, 0, none⟩), pl3 f, .int .i64 k, .func (.yield l) #[] #[]] W
      fun e W' => e = .returned (.bool true) ∧ J (pre ++ plansL V d f k) W' ∧ ExtI B0 B1 W W' := by
  intro d
  induction d with
  | zero =>
    intro k f pre W hk hf hE hB hj
    obtain rfl : k = V.S.boxes.length := by omega
    obtain ⟨p0, c0, p1, c1, p2, c2, p3, c3, -, -, -, -, h0, -⟩ := (hV0.ext (hE.trans (Ext.alloc (Ext.refl W) (.cells #[.int .u64 (f 0), .int .u64 (f 1), .int .u64 (f 2)] 78)))).facts
    have hp := heap_new W (.cells #[.int .u64 (f 0), .int .u64 (f 1), .int .u64 (f 2)] 78)
    have hbx : Ext W (W.alloc (.cells #[.int .u64 (f 0), .int .u64 (f 1), .int .u64 (f 2)] 78)) := Ext.alloc (Ext.refl W) _
    have hb3 := hO.boxes
    unfold pl3 at hY ⊢
    go_enter Try.func87, Try.ntmps87
    go_upto_region 1 with (fail)
    obtain ⟨W1, hW⟩ : ∃ W1, W1 = W.alloc (.cells #[.int .u64 (f 0), .int .u64 (f 1), .int .u64 (f 2)] 78) := ⟨_, rfl⟩
    rw [← hW] at hp hbx h0 ⊢
    have hq0 := cell_of_heap hp 0
    have hq1 := cell_of_heap hp 1
    have hq2 := cell_of_heap hp 2
    simp at hq0 hq1 hq2
    have hj1 := hJ _ _ W1 hj (Below.mono hbx hB)
    obtain ⟨fn, tmps, ag, bd, hy, hR⟩ := hY pre f W1 hf hj1 (Nat.le_trans hB hbx.size)
    have hR' := Lib.hid hR
    have hy' := Lib.hid hy
    clear hW hp hR hY hy
    go_upto_region 2 with (fail)
    have hy := hy'.out
    refine (wpIn_wide (n := 0)).1 ?_
    gi_wp2
    refine ⟨rfl, hR'.out.mono ?_⟩
    rintro e W2 ⟨rfl, hj2, hx⟩
    gi_wp2
    go_wp2
    go_ret
    exact ⟨rfl, hj2, (hbx.toI _ _).trans hx⟩
  | succ d ih =>
    intro k f pre W hk hf hE hB hj
    have hkl : k < V.S.boxes.length := by omega
    have hb3 := hO.boxes
    have hn6 := hO.stock
    have hp := heap_new W (.cells #[.int .u64 (f 0), .int .u64 (f 1), .int .u64 (f 2)] 78)
    have hbx : Ext W (W.alloc (.cells #[.int .u64 (f 0), .int .u64 (f 1), .int .u64 (f 2)] 78)) := Ext.alloc (Ext.refl W) _
    have hw1 : (W.alloc (.cells #[.int .u64 (f 0), .int .u64 (f 1), .int .u64 (f 2)] 78)).heap.size = W.heap.size + 1 := by simp
    unfold pl3 at hY ⊢
    go_enter Try.func87, Try.ntmps87
    go_upto_region 1 with (fail)
    obtain ⟨W1, hW⟩ : ∃ W1, W1 = W.alloc (.cells #[.int .u64 (f 0), .int .u64 (f 1), .int .u64 (f 2)] 78) := ⟨_, rfl⟩
    rw [← hW] at hp hbx hw1 ⊢
    obtain ⟨p0, c0, p1, c1, p2, c2, p3, c3, -, -, -, -, h0, h1, -⟩ := (hV0.ext (hE.trans hbx)).facts
    have hj1 := hJ _ _ W1 hj (Below.mono hbx hB)
    have hY' := Lib.hid hY
    have hne : ((k : Int) == (V.S.boxes.length : Int)) = false := by simp; omega
    have HK := Lib.hid hk
    have hw1' := Lib.hid hw1
    clear hW hY hk hw1
    obtain ⟨N, hN⟩ : ∃ N, N = 2 ^ V.S.stock.length := ⟨_, rfl⟩
    have hN64 : N ≤ 64 := by rw [hN]; exact Nat.le_trans (Nat.pow_le_pow_right (by decide) hn6) (by decide)
    have hsh : IntKind.u64.wrap (2 ^ V.S.stock.length) = (N : Int) := by
      rw [hN]
      have : ((2 ^ V.S.stock.length : Nat) : Int) = (2 : Int) ^ V.S.stock.length := by simp
      rw [← this, ← hN]
      simp [IntKind.wrap, IntKind.bits, IntKind.signed]
      omega
    have HN := Lib.hid hN
    clear hN
    go_wp2
    go_loopw [28] (fun c wr => ∃ (s : Nat) (g : Nat → Nat), s ≤ N ∧ c = .int .u64 s ∧ (∀ t, upd g k t = upd f k t) ∧ wr.heap[W.heap.size]? = some (box3 g) ∧ J (pre ++ plansTo V d f k s) wr ∧ ExtI B0 B1 W wr) (fun c _ => N - (intOf c).toNat)
    case atStart => exact ⟨0, f, by omega, rfl, by first | trivial | (intro t; rfl), hp, by first | exact hj1 | simpa [plansTo] using hj1, hbx.toI _ _⟩
    case round =>
      obtain ⟨s, g, hs, rfl, hg, hbox, hjr, hx⟩ := hrel
      have HG := Lib.hid hg
      have HB := Lib.hid hbox
      have HJ := Lib.hid hjr
      have hEr : Ext w0 wr := hx.ext hE (by omega)
      obtain ⟨p0', c0', p1', c1', p2', c2', p3', c3', hl0, -, -, -, h0', h1', -⟩ := (hV0.ext hEr).facts
      obtain ⟨b1, o1, q, c, rfl, hc1, hq⟩ := hl0.at k hkl
      have hk3 : k < 3 := by omega
      have hck := box3_cell hbox k hk3
      have hfk := box3_frozen hbox k
      have HS := Lib.hid (plansTo_succ V d f k s)
      clear hg hbox hjr h0 h1
      by_cases hlt : s < N
      · have hs64 : s < 64 := by omega
        have hpl := popc_le s
        have hrow := hO.titles k hkl
        have hgd : V.S.boxes.getD k [] = V.S.boxes[k] := by simp [List.getD, hkl]
        have HGD := Lib.hid hgd
        clear hgd
        by_cases hpop : popc s = V.S.boxes[k].length
        · have HP := Lib.hid hpop
          have hpop' : ((popc s : Int) != (V.S.boxes[k].length : Int)) = false := by simp [hpop]
          clear hpop
          go_upto_region 6 with (fail)
          go_quiet ((go_at_call 101; exact RetQ.quiet (many07 _ _ hs64)))
          go_upto_region 8 with (fail)
          obtain ⟨F, hF⟩ : ∃ F, F = upd f k s := ⟨_, rfl⟩
          obtain ⟨W3, hW3⟩ : ∃ W3, W3 = (wr.drewN nq).setCell ⟨W.heap.size, k, none⟩ (.int .u64 s) := ⟨_, rfl⟩
          have hb3w : W3.heap[W.heap.size]? = some (box3 F) := by
            rw [hW3, hF, ← HG.out s]; exact box3_set HB.out hk3 nq s
          have hx3 : ExtI B0 B1 W W3 := by
            rw [hW3]
            refine ⟨hx.os, hx.tape, hx.output, by rw [World.setCell]; simp only [Array.size_modify]; exact hx.size, fun i hi hb => ?_⟩
            rw [Below.heap_setCell _ _ _ _ (by show i ≠ W.heap.size; omega)]
            exact hx.block i hi hb
          have hj3 : J (pre ++ plansTo V d f k s) W3 := by
            refine hJ _ _ _ HJ.out ?_
            rw [hW3]
            exact Below.setCell (a := wr) (w := wr.drewN nq) (p := ⟨W.heap.size, k, none⟩) ⟨rfl, rfl, rfl, Nat.le_refl _, fun _ _ => rfl⟩ hB _
          have hE3 : Ext w0 W3 := hx3.ext hE (by omega)
          rw [← hW3]
          have hF64 : ∀ j, j < 3 → F j < 64 := by rw [hF]; exact upd_lt hf hs64
          have hs3 : B1 ≤ W3.heap.size := Nat.le_trans hB hx3.size
          have hb3l : W.heap.size < W3.heap.size := (Array.getElem?_eq_some_iff.1 hb3w).1
          have hr0 := box3_cell hb3w 0 (by decide)
          have hr1 := box3_cell hb3w 1 (by decide)
          have hr2 := box3_cell hb3w 2 (by decide)
          have HF := Lib.hid hF
          have hFC := fits07 F (k + 1) b V W3 (hV0.ext hE3) hO hF64 (by omega)
          rw [show ((k + 1 : Nat) : Int) = (k : Int) + 1 from by simp] at hFC
          have HB3 := Lib.hid hb3w
          clear hF hW3 hb3w h0' h1' hc1 hq hck hfk hsh hne hpop'
          by_cases hfit : FitsTo V F (k + 1)
          · have HFC := Lib.hid (RetE.bt hfit hFC)
            have HFIT := Lib.hid hfit
            clear hFC hfit
            unfold pl3 at HFC
            go_wp2_with fail
            refine HFC.out.mono ?_
            rintro e W4 ⟨rfl, hE4⟩
            replace hr0 := hE4.cell hr0
            replace hr1 := hE4.cell hr1
            replace hr2 := hE4.cell hr2
            have hj4 := hJ _ _ W4 hj3 (Below.mono hE4 hs3)
            have hP := ih (k + 1) F (pre ++ plansTo V d f k s) W4 (by have := HK.out; omega) hF64 (hE3.trans hE4) (Nat.le_trans hs3 hE4.size) hj4
            rw [show ((k + 1 : Nat) : Int) = (k : Int) + 1 from by simp] at hP
            have HP2 := Lib.hid hP
            clear hP
            unfold pl3 at HP2
            go_wp2_with fail
            refine HP2.out.mono ?_
            rintro e W5 ⟨rfl, hj5, hx5⟩
            go_wp2
            go_roundw
            case rel =>
              exact ⟨s + 1, F, by omega, by go_num, by intro t; rw [HF.out, upd_upd], (hx5.block _ (Nat.lt_of_lt_of_le hb3l hE4.size) (.inr hB)).trans ((Below.block hE4 _ hb3l).trans HB3.out), by
                rw [HS.out, if_pos ⟨by rw [HGD.out]; exact HP.out, by rw [← HF.out]; exact bP_t HFIT.out⟩, ← HF.out, ← List.append_assoc]
                exact hj5, (hx3.trans (hE4.toI _ _)).trans hx5⟩
            case measure => simp [intOf]; omega
          · have HFC := Lib.hid (RetE.bf hfit hFC)
            have HFIT := Lib.hid hfit
            clear hFC hfit
            unfold pl3 at HFC
            go_wp2_with fail
            refine HFC.out.mono ?_
            rintro e W4 ⟨rfl, hE4⟩
            have hj4 := hJ _ _ W4 hj3 (Below.mono hE4 hs3)
            go_wp2
            go_roundw
            case rel =>
              exact ⟨s + 1, F, by omega, by go_num, by intro t; rw [HF.out, upd_upd], (Below.block hE4 _ hb3l).trans HB3.out, by
                rw [HS.out, if_neg (by rw [← HF.out, bP_f HFIT.out]; simp), List.append_nil]
                exact hj4, hx3.trans (hE4.toI _ _)⟩
            case measure => simp [intOf]; omega
        · have HP := Lib.hid hpop
          have hpop' : ((popc s : Int) != (V.S.boxes[k].length : Int)) = true := by simp; omega
          clear hpop
          go_upto_region 6 with (fail)
          go_quiet ((go_at_call 101; exact RetQ.quiet (many07 _ _ hs64)))
          go_wp2
          go_roundw
          case rel =>
            exact ⟨s + 1, g, by omega, by go_num, HG.out, HB.out, by
              rw [HS.out, if_neg (by rw [HGD.out]; exact fun e => HP.out e.1), List.append_nil]
              exact hJ _ _ _ HJ.out ⟨rfl, rfl, rfl, Nat.le_refl _, fun _ _ => rfl⟩, hx.trans ⟨rfl, rfl, rfl, Nat.le_refl _, fun _ _ _ => rfl⟩⟩
          case measure => simp [intOf]; omega
      · obtain rfl : s = N := by omega
        go_wp2
        go_ret
        refine ⟨rfl, ?_, hx⟩
        rw [show plansL V (d + 1) f k = plansTo V d f k s from by rw [HN.out]; rfl]
        exact HJ.out

set_option maxHeartbeats 400000 in
theorem each07 (V : Visit) (hO : VOK V) (b l B0 B1 : Nat) (w0 : World) (hV0 : VisitAt w0 b V) (hB0 : w0.heap.size ≤ B0) (J : List (Nat → Nat) → World → Prop)
    (hJ : ∀ pre W W', J pre W → Below B1 W W' → J pre W') (hY : YieldAll Try.prog l pl3 okP B0 B1 J) (W : World) (hE : Ext w0 W) (hB : B1 ≤ W.heap.size) (hj : J [] W) :
    Calls Try.prog 55 #[.pointer (some ⟨b, 0, none⟩), .func (.yield l) #[] #[]] W
      fun e W' => (∃ v, e = .returned v) ∧ J (plansL V V.S.boxes.length (fun _ => 0) 0) W' ∧ ExtI B0 B1 W W' := by
  have HP := Lib.hid (plans07 V hO b l B0 B1 w0 hV0 hB0 J hJ hY V.S.boxes.length 0 (fun _ => 0) [] W (by omega) (by intro j _; exact (by decide : (0 : Nat) < 64)) hE hB hj)
  clear hY
  unfold pl3 at HP
  go_enter Try.func55, Try.ntmps55
  go_wp2_with fail
  refine HP.out.mono ?_
  rintro e W5 ⟨rfl, hj5, hx5⟩
  go_wp2
  go_end0
  exact ⟨⟨_, rfl⟩, hj5, hx5⟩
end Go.Proofs.Ytpgjkmjejpfkmaa
