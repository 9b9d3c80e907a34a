/- The walk of Earns of package swaps. -/
import Derived.Test.YtpgjkmjejpfkmaaR07c
import Derived.Test.YtpgjkmjejpfkmaaC07b
namespace Go.Proofs.Ytpgjkmjejpfkmaa
open Go.RowKit

/-- what a plan earns in each box -/
def eL (S : Swap) (f : Nat → Nat) (n : Nat) : List Int := (List.range n).map fun k => earnTo S.earn (f k) k S.earn.length
theorem eL_succ (S : Swap) (f : Nat → Nat) (n : Nat) : eL S f (n + 1) = eL S f n ++ [earnTo S.earn (f n) n S.earn.length] := by simp [eL, List.range_succ]
theorem eL_len (S : Swap) (f : Nat → Nat) (n : Nat) : (eL S f n).length = n := by simp [eL]
theorem intVs_snoc (l : List Int) (n : Int) : intVs (l ++ [n]) = intVs l ++ [.int .i64 n] := by simp [intVs]

def EarnsPost (S : Swap) (L : List (List Int)) (w : World) (e : Ending) (w' : World) : Prop :=
  (Valid S ∧ IsPlan S L ∧ ∃ v, e = .returned (.tuple #[v, .int .i64 (sumTo (openV S) (planTo L L.length) S.boxes.length), .int .i64 0]) ∧ IntsV w' v (eL S (planTo L L.length) S.boxes.length) ∧ Ext w w') ∨
  (Valid S ∧ ¬IsPlan S L ∧ e = .returned (.tuple #[.slice none 0 0, .int .i64 0, .int .i64 1]) ∧ Ext w w') ∨
  (¬Valid S ∧ e = .returned (.tuple #[.slice none 0 0, .int .i64 0, .int .i64 70]) ∧ Ext w w')

theorem ownsRow_ints {w : World} {B : Nat} {v : Value} {l : List Int} (h : w.ownsRow B 3 1 v l.length (intVs l)) : IntsV w v l := by
  rcases h.2 with ⟨rfl, h0⟩ | ⟨g, cap, cur, rfl, -⟩
  · have : l = [] := List.length_eq_zero_iff.1 h0
    subst this
    exact ⟨none, 0, rfl, IntsAt.nil _ _⟩
  · exact ⟨_, _, rfl, row_ints h⟩

set_option maxHeartbeats 1600000 in
theorem Earns07 (v : Value) (S : Swap) (pp : Option Addr) (pc : Nat) (L : List (List Int)) (w : World) (hv : SwapV w v S) (hM : Modest S) (hL : ListsAt w pp L) (hLl : L.length ≤ 100000) (hLr : ∀ i (h : i < L.length), L[i].length ≤ 100000) :
    Calls Try.prog 35 #[v, .slice pp L.length pc] w (EarnsPost S L w) := by
  have hG := fun w' (h : Ext w w') => given07 v S pp pc L w' (SwapV.mono _ _ _ _ h hv) hM (hL.ext h) hLl hLr
  obtain ⟨p0, c0, p1, c1, p2, c2, p3, c3, rfl, h0, h1, h2, h3⟩ := id hv
  have HG := Lib.hid hG
  clear hG hL hLr hv
  go_enter Try.func35, Try.ntmps35
  go_upto_region 1 with (fail)
  have hn := heap_new w (.cells #[.slice p0 S.boxes.length c0, .slice p1 S.stock.length c1, .slice p2 S.earn.length c2, .slice p3 S.keeps.length c3, .int .i64 S.changes] 26)
  obtain ⟨W, hW⟩ : ∃ W, W = w.alloc (.cells #[.slice p0 S.boxes.length c0, .slice p1 S.stock.length c1, .slice p2 S.earn.length c2, .slice p3 S.keeps.length c3, .int .i64 S.changes] 26) := ⟨_, rfl⟩
  have hE : Ext w W := by rw [hW]; exact Ext.alloc (Ext.refl w) _
  rw [← hW] at hn ⊢
  have q0 := ExtW.cell (v := .slice p0 S.boxes.length c0) (cell_of_heap hn 0)
  have q1 := ExtW.cell (v := .slice p1 S.stock.length c1) (cell_of_heap hn 1)
  have q2 := ExtW.cell (v := .slice p2 S.earn.length c2) (cell_of_heap hn 2)
  have q3 := ExtW.cell (v := .slice p3 S.keeps.length c3) (cell_of_heap hn 3)
  have q4 := ExtW.cell (v := .int .i64 S.changes) (cell_of_heap hn 4)
  obtain ⟨x0, hx0⟩ := ExtW.of (Ext.refl W)
  clear hW hn h0 h1 h2 h3
  conv => arg 5; rw [hx0]
  go_wp2_with fail
  refine (HG.out _ (hE.trans x0.h)).mono ?_
  rintro e W2 (⟨hS, hP, b, rfl, hvis, hE2⟩ | ⟨hS, hP, rfl, hE2⟩ | ⟨hS, rfl, hE2⟩)
  · have hb3 := hS.boxes
    have hc0 := hE2.cell (q0 x0)
    have HS := Lib.hid hS
    have HP := Lib.hid hP
    have hlt : w.heap.size < W2.heap.size := lt_of_cell hc0
    have hf64 := fun k => planTo_lt hS hP L.length k
    clear hS hP
    obtain ⟨f, hf⟩ : ∃ f, f = planTo L L.length := ⟨_, rfl⟩
    have HFF := Lib.hid hf
    rw [← hf] at hf64 ⊢
    have HF64 := Lib.hid hf64
    unfold pl3
    clear hf hf64
    go_upto_region 2 with (fail)
    have hp := heap_new W2 (.cells #[.int .u64 (f 0), .int .u64 (f 1), .int .u64 (f 2)] 78)
    obtain ⟨W3, hW3⟩ : ∃ W3, W3 = W2.alloc (.cells #[.int .u64 (f 0), .int .u64 (f 1), .int .u64 (f 2)] 78) := ⟨_, rfl⟩
    have hE3 : Ext W2 W3 := by rw [hW3]; exact Ext.alloc (Ext.refl W2) _
    rw [← hW3] at hp ⊢
    have z0 := ExtW.cell (v := .int .u64 (f 0)) (cell_of_heap hp 0)
    have z1 := ExtW.cell (v := .int .u64 (f 1)) (cell_of_heap hp 1)
    have z2 := ExtW.cell (v := .int .u64 (f 2)) (cell_of_heap hp 2)
    have hc3 := ExtW.cell (hE3.cell hc0)
    have HE := Lib.hid (((hE.trans x0.h).trans hE2).trans hE3)
    have hvis3 := hvis.ext hE3
    have HEA := Lib.hid (fun (x : ExtW W3) k (hk : k < S.boxes.length) => (earns07 f k b (openV S) x.w (hvis3.ext x.h) (openV_ok HS.out) hk (HF64.out k)))
    have HSU := Lib.hid (fun (x : ExtW W3) => (sum07 f b (openV S) x.w (hvis3.ext x.h) (openV_ok HS.out) (fun k _ => HF64.out k)))
    have hsz3 : W2.heap.size + 1 = W3.heap.size := by rw [hW3]; exact (size_alloc _ _).symm
    obtain ⟨i0, hi, hz0, hz1, hz2⟩ := info_parts info_a
    clear hW3 hp hc0 hE hE2 hE3 hvis hvis3 q0 q1 q2 q3 q4 HG hlt
    obtain ⟨y0, hy0⟩ := ExtW.of (Ext.refl W3)
    conv => arg 5; rw [hy0]
    clear hy0
    go_wp2
    go_loopw [4, 23] (fun u i wr => ∃ k : Nat, k ≤ S.boxes.length ∧ i = .int .i64 k ∧ ∃ x : ExtW W3, wr = x.w ∧ x.w.ownsRow W3.heap.size 3 1 u (eL S f k).length (intVs (eL S f k))) (fun _ i _ => S.boxes.length - (intOf i).toNat)
    case atStart => exact ⟨0, by omega, rfl, y0, rfl, World.ownsRow_nil _ _ _ _⟩
    case round =>
      obtain ⟨k, hk, rfl, x, rfl, hown⟩ := hrel
      by_cases hlt : k < S.boxes.length
      · have HO := Lib.hid hown
        clear hown
        have hsz := x.h.size
        have hsz2 : (eL S f k).length = k := eL_len S f k
        go_wp2_with fail
        refine (HEA.out x k hlt).mono ?_
        rintro e w2 ⟨rfl, hE2⟩
        have HO2 := Lib.hid (ownsRow_ext HO.out hE2)
        have HX2 := Lib.hid (x.h.trans hE2)
        have hsz3' := HX2.out.size
        clear hE2 HO
        go_wp2_with (at_builtin; refine wpList_append_lies _ rfl (.tmp 26) (.tmp 31) 23 rfl W3.heap.size 3 i0 (.int .i64 0) 1 8 Try.underlying23 hi hz0 hz1 hz2 rfl (by decide) _ (eL S f k).length _ rfl (HO2.out.alloc _) ⟨w2.heap.size, 0, none⟩ 1 1 [.int .i64 (earnTo (openV S).S.earn (f k) k (openV S).S.earn.length)] rfl rfl ?c1 ?c2 (by decide) ?c3 ?c4 ?c5 (w2.heap.size + 1) (size_alloc _ _) ?_)
        case c1 =>
          intro j u hj
          match j, hj with
          | 0, hj => simp at hj; subst hj; simp [Addr.add]
        case c2 => intro u hu; simp at hu; subst hu; rfl
        case c3 => rw [eL_len]; unfold maxLen; omega
        case c4 => rw [eL_len]; omega
        case c5 => rw [size_alloc]; omega
        intro g4 cap4 w4 hown4 hgr4 hat4 hlt4
        have hE4 : Ext W3 w4 := Below.grown (HX2.out.alloc _) hgr4 (by rw [size_alloc]; omega) (fun j hj => (HO2.out.lt j hj).1)
        have HO4 := Lib.hid hown4
        obtain ⟨x4, rfl⟩ := ExtW.of hE4
        clear hown4 hgr4 hat4 hlt4 hE4 HO2 HX2 hsz2
        go_wp2
        go_roundw
        case rel => exact ⟨k + 1, by omega, by go_num, x4, rfl, by rw [eL_succ, intVs_snoc]; have := HO4.out; simp only [List.length_append, List.length_cons, List.length_nil, eL_len]; exact this⟩
        case measure => simp [intOf]; omega
      · obtain rfl : k = S.boxes.length := by omega
        have HO := Lib.hid hown
        clear hown
        go_wp2_with fail
        refine (HSU.out x).mono ?_
        rintro e w2 ⟨rfl, hE2⟩
        go_wp2
        go_ret3
        have hff := HFF.out
        subst hff
        exact Or.inl ⟨HS.out, HP.out, _, rfl, IntsV.mono _ _ _ _ hE2 (ownsRow_ints HO.out), HE.out.trans (x.h.trans hE2)⟩
  · clear q0 q1 q2 q3 q4
    unfold pl3
    have HS := Lib.hid hS
    have HP := Lib.hid hP
    clear hS hP
    go_wp2
    go_ret3
    exact Or.inr (Or.inl ⟨HS.out, HP.out, rfl, Ext.alloc ((hE.trans x0.h).trans hE2) _⟩)
  · clear q0 q1 q2 q3 q4
    unfold pl3
    have HS := Lib.hid hS
    clear hS
    go_wp2
    go_ret3
    exact Or.inr (Or.inr ⟨HS.out, rfl, Ext.alloc ((hE.trans x0.h).trans hE2) _⟩)
end Go.Proofs.Ytpgjkmjejpfkmaa
