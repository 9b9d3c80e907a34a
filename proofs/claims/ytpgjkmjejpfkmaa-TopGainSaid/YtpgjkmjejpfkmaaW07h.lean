/- The walk of open. -/
import Derived.Test.YtpgjkmjejpfkmaaW07f
import Derived.Test.YtpgjkmjejpfkmaaW07g
import Derived.Deep.RegionWith
namespace Go.Proofs.Ytpgjkmjejpfkmaa
open Go.RowKit

/-- what is in the first boxes now -/
def nowTo (S : Swap) (k : Nat) : Nat → Nat := fun j => if j < k then maskOf (S.boxes.getD j []) else 0
theorem nowTo_succ (S : Swap) (k : Nat) : nowTo S (k + 1) = upd (nowTo S k) k (maskOf (S.boxes.getD k [])) := by
  funext j
  unfold nowTo upd
  by_cases h : j = k
  · subst h; simp
  · by_cases h2 : j < k
    · simp [h, h2, Nat.lt_succ_of_lt h2]
    · simp [h, h2, show ¬ j < k + 1 from by omega]
/-- what the first keeps keep -/
def keepTo (l : List (Int × Int)) : Nat → Nat := l.foldl (fun K k => upd K k.1.toNat (K k.1.toNat ||| 2 ^ k.2.toNat)) fun _ => 0
theorem keepTo_snoc (l : List (Int × Int)) (k : Int × Int) : keepTo (l ++ [k]) = upd (keepTo l) k.1.toNat (keepTo l k.1.toNat ||| 2 ^ k.2.toNat) := by simp [keepTo]
/-- how many copies there are of the first titles -/
def copiesTo (S : Swap) (now : Nat → Nat) (k : Nat) : Nat → Int := fun t => if t < k then S.stock.getD t 0 + cntB now t 3 else 0
def openV (S : Swap) : Visit := { S := S, now := nowTo S S.boxes.length, keeps := keepTo S.keeps, copies := copiesTo S (nowTo S S.boxes.length) S.stock.length }

def updI (f : Nat → Int) (k : Nat) (s : Int) : Nat → Int := fun j => if j = k then s else f j
theorem copiesTo_succ (S : Swap) (now : Nat → Nat) (k : Nat) : copiesTo S now (k + 1) = updI (copiesTo S now k) k (S.stock.getD k 0 + cntB now k 3) := by
  funext j
  unfold copiesTo updI
  by_cases h : j = k
  · subst h; simp
  · by_cases h2 : j < k
    · simp [h, h2, Nat.lt_succ_of_lt h2]
    · simp [h, h2, show ¬ j < k + 1 from by omega]

section
variable (p0 : Option Addr) (c0 : Nat) (p1 : Option Addr) (c1 : Nat) (p2 : Option Addr) (c2 : Nat) (p3 : Option Addr) (c3 : Nat) (S : Swap) (now keeps : Nat → Nat) (copies : Nat → Int)
theorem visit_set_now (k s : Nat) (hk : k < 3) : visitCells p0 c0 p1 c1 p2 c2 p3 c3 ⟨S, upd now k s, keeps, copies⟩ = (visitCells p0 c0 p1 c1 p2 c2 p3 c3 ⟨S, now, keeps, copies⟩).setIfInBounds (5 + k) (.int .u64 s) := by
  obtain rfl | rfl | rfl : k = 0 ∨ k = 1 ∨ k = 2 := by omega
  all_goals rfl
theorem visit_set_keeps (k s : Nat) (hk : k < 3) : visitCells p0 c0 p1 c1 p2 c2 p3 c3 ⟨S, now, upd keeps k s, copies⟩ = (visitCells p0 c0 p1 c1 p2 c2 p3 c3 ⟨S, now, keeps, copies⟩).setIfInBounds (8 + k) (.int .u64 s) := by
  obtain rfl | rfl | rfl : k = 0 ∨ k = 1 ∨ k = 2 := by omega
  all_goals rfl
theorem visit_set_copies (k : Nat) (s : Int) (hk : k < 6) : visitCells p0 c0 p1 c1 p2 c2 p3 c3 ⟨S, now, keeps, updI copies k s⟩ = (visitCells p0 c0 p1 c1 p2 c2 p3 c3 ⟨S, now, keeps, copies⟩).setIfInBounds (11 + k) (.int .i64 s) := by
  obtain rfl | rfl | rfl | rfl | rfl | rfl : k = 0 ∨ k = 1 ∨ k = 2 ∨ k = 3 ∨ k = 4 ∨ k = 5 := by omega
  all_goals rfl
end

theorem visit_copies_cell (p0 : Option Addr) (c0 : Nat) (p1 : Option Addr) (c1 : Nat) (p2 : Option Addr) (c2 : Nat) (p3 : Option Addr) (c3 : Nat) (S : Swap) (now keeps : Nat → Nat) (copies : Nat → Int) (k : Nat) (hk : k < 6) :
    (visitCells p0 c0 p1 c1 p2 c2 p3 c3 ⟨S, now, keeps, copies⟩)[11 + k]? = some (.int .i64 (copies k)) := by
  obtain rfl | rfl | rfl | rfl | rfl | rfl : k = 0 ∨ k = 1 ∨ k = 2 ∨ k = 3 ∨ k = 4 ∨ k = 5 := by omega
  all_goals rfl

/-- a visit at work over the world a, in which its lists lay -/
def VisitB (a w : World) (b : Nat) (V : Visit) : Prop := ∃ p0 c0 p1 c1 p2 c2 p3 c3, Ext a w ∧ a.heap.size ≤ b ∧
  w.heap[b]? = some (.cells (visitCells p0 c0 p1 c1 p2 c2 p3 c3 V) 93 (0, 0)) ∧
  ListsAt a p0 V.S.boxes ∧ IntsAt a p1 V.S.stock ∧ ListsAt a p2 V.S.earn ∧ PairsAt a p3 V.S.keeps
theorem VisitB.at {a w : World} {b : Nat} {V : Visit} (h : VisitB a w b V) : VisitAt w b V := ⟨a, h⟩
theorem VisitB.ext {a w w' : World} {b : Nat} {V : Visit} (h : VisitB a w b V) (hE : Ext w w') : VisitB a w' b V := by
  obtain ⟨p0, c0, p1, c1, p2, c2, p3, c3, h1, h2, h3, h4⟩ := h
  exact ⟨p0, c0, p1, c1, p2, c2, p3, c3, h1.trans hE, h2, (Below.block hE b (Array.getElem?_eq_some_iff.1 h3).1).trans h3, h4⟩
theorem VisitB.set {a w : World} {b B o : Nat} {V : Visit} {u : Value} (h : VisitB a w b V) (hB : a.heap.size ≤ B) (hne : b ≠ B) : VisitB a (w.setCell ⟨B, o, none⟩ u) b V := by
  obtain ⟨p0, c0, p1, c1, p2, c2, p3, c3, h1, h2, h3, h4⟩ := h
  exact ⟨p0, c0, p1, c1, p2, c2, p3, c3, h1.set hB, h2, heap_set_ne hne h3, h4⟩

theorem maskOf_box {S : Swap} (hS : Valid S) (j : Nat) : maskOf (S.boxes.getD j []) < 64 := by
  by_cases h : j < S.boxes.length
  · have hr := (hS.box j h).2
    have ht := hS.stock
    rw [show S.boxes.getD j [] = S.boxes[j] from by simp [List.getD, h]]
    exact maskOf_lt _ (fun n hn => by have := hr.mem n hn; omega)
  · rw [show S.boxes.getD j [] = [] from by simp [List.getD, List.getElem?_eq_none (by omega : S.boxes.length ≤ j)]]
    decide
theorem nowTo_lt {S : Swap} (hS : Valid S) (k j : Nat) : nowTo S k j < 64 := by
  unfold nowTo
  split
  · exact maskOf_box hS j
  · decide

theorem ints_mem_bound {S : Swap} (hS : Valid S) (i : Nat) (h : i < S.keeps.length) : 0 ≤ S.keeps[i].2 ∧ S.keeps[i].2 ≤ 5 := by
  obtain ⟨h1, h2, h3⟩ := hS.keep i h
  have hb : S.keeps[i].1.toNat < S.boxes.length := by omega
  rw [show S.boxes.getD S.keeps[i].1.toNat [] = S.boxes[S.keeps[i].1.toNat] from by simp [List.getD, hb]] at h3
  have hr := (hS.box _ hb).2.mem _ h3
  have := hS.stock
  omega
theorem keepTo_lt {S : Swap} (hS : Valid S) : ∀ k, k ≤ S.keeps.length → ∀ j, keepTo (S.keeps.take k) j < 64
  | 0, _, j => by simp [keepTo]
  | k + 1, h, j => by
    rw [List.take_succ_eq_append_getElem (by omega), keepTo_snoc]
    unfold upd
    have hb := ints_mem_bound hS k (by omega)
    split
    · exact Nat.or_lt_two_pow (n := 6) (keepTo_lt hS k (by omega) _) (Nat.pow_lt_pow_right (by decide) (by omega))
    · exact keepTo_lt hS k (by omega) j

set_option maxHeartbeats 1600000 in
theorem open07s (v : Value) (S : Swap) (w : World) (hv : SwapV w v S) (hS : Valid S) :
    Calls Try.prog 53 #[v] w fun e w' => ∃ b, e = .returned (.pointer (some ⟨b, 0, none⟩)) ∧ (∀ a, Ext a w → SwapV a v S → VisitB a w' b (openV S)) ∧ Ext w w' ∧ w.heap.size ≤ b := by
  obtain ⟨p0, c0, p1, c1, p2, c2, p3, c3, rfl, h0, h1, h2, h3⟩ := hv
  have hb3 := hS.boxes
  have ht6 := hS.stock
  have hk4 := hS.keeps
  go_enter Try.func53, Try.ntmps53
  go_upto_region 2 with (fail)
  obtain ⟨W1, hW⟩ : ∃ W1, W1 = (w.alloc (.cells #[.slice p0 S.boxes.length c0, .slice p1 S.stock.length c1, .slice p2 S.earn.length c2, .slice p3 S.keeps.length c3, .int .i64 S.changes] 26)).alloc
      (.cells #[.slice p0 S.boxes.length c0, .slice p1 S.stock.length c1, .slice p2 S.earn.length c2, .slice p3 S.keeps.length c3, .int .i64 S.changes, .int .u64 0, .int .u64 0, .int .u64 0, .int .u64 0, .int .u64 0, .int .u64 0, .int .i64 0, .int .i64 0, .int .i64 0, .int .i64 0, .int .i64 0, .int .i64 0] 93) := ⟨_, rfl⟩
  have hE1 : Ext w W1 := by rw [hW]; exact Ext.alloc (Ext.alloc (Ext.refl w) _) _
  have hsb : W1.heap[w.heap.size]? = some (.cells #[.slice p0 S.boxes.length c0, .slice p1 S.stock.length c1, .slice p2 S.earn.length c2, .slice p3 S.keeps.length c3, .int .i64 S.changes] 26) := by
    rw [hW, Below.heap_alloc _ _ _ (by simp), heap_new]
  have hvb : W1.heap[w.heap.size + 1]? = some (.cells (visitCells p0 c0 p1 c1 p2 c2 p3 c3 ⟨S, nowTo S 0, keepTo [], copiesTo S (fun _ => 0) 0⟩) 93) := by
    rw [hW]
    exact (by simp : (w.alloc (.cells #[.slice p0 S.boxes.length c0, .slice p1 S.stock.length c1, .slice p2 S.earn.length c2, .slice p3 S.keeps.length c3, .int .i64 S.changes] 26)).heap.size = w.heap.size + 1) ▸ heap_new _ _
  rw [← hW]
  clear hW
  have q0 := cell_of_heap hsb 0
  simp at q0
  go_wp2
  go_loopw [16] (fun i wr => ∃ k : Nat, k ≤ S.boxes.length ∧ i = .int .i64 k ∧
      wr.heap[w.heap.size]? = some (.cells #[.slice p0 S.boxes.length c0, .slice p1 S.stock.length c1, .slice p2 S.earn.length c2, .slice p3 S.keeps.length c3, .int .i64 S.changes] 26) ∧
      wr.heap[w.heap.size + 1]? = some (.cells (visitCells p0 c0 p1 c1 p2 c2 p3 c3 ⟨S, nowTo S k, keepTo [], copiesTo S (fun _ => 0) 0⟩) 93) ∧ Ext w wr) (fun i _ => S.boxes.length - (intOf i).toNat)
  case atStart => exact ⟨0, by omega, rfl, hsb, hvb, hE1⟩
  case round =>
    obtain ⟨k, hk, rfl, hsr, hvr, hE⟩ := hrel
    have HV := Lib.hid hvr
    have HSB := Lib.hid hsr
    have q1 := cell_of_heap hsr 1
    simp at q1
    by_cases hlt : k < S.boxes.length
    · obtain ⟨b1, o1, q, c, rfl, hc1, hq⟩ := (h0.ext hE).at k hlt
      have hk3 : k < 3 := by omega
      have hc := cell_of_heap hvr (5 + k)
      have hcv : (visitCells (some ⟨b1, o1, none⟩) c0 p1 c1 p2 c2 p3 c3 ⟨S, nowTo S k, keepTo [], copiesTo S (fun _ => 0) 0⟩)[5 + k]? = some (.int .u64 (nowTo S k k)) := by
        obtain rfl | rfl | rfl : k = 0 ∨ k = 1 ∨ k = 2 := by omega
        all_goals rfl
      rw [hcv] at hc
      have hfz := cell_frozen hvr (5 + k)
      have hrow := hS.box k hlt
      have hr1 := hrow.1
      have HC := parse07 q S.boxes[k] c S.stock.length wr.drew (by omega) ht6 (hq.ext (Ext.drew (Ext.refl _)))
      rw [parseV_t hrow.2] at HC
      have HC2 := Lib.hid HC
      clear HC hrow hcv hvr hsr hsb hvb hE1
      go_upto_region 5 with (fail)
      go_region_with (go_at_call 72; refine HC2.out.mono ?_; rintro e w' ⟨rfl, rfl⟩)
      all_goals
        go_wp2
        go_roundw
        case rel =>
          refine ⟨k + 1, by omega, by go_num, ?_, ?_, ?_⟩
          · repeat (with_reducible (first | refine heap_drew ?_ | refine heap_set_ne (by omega) ?_ | exact HSB.out))
          · rw [nowTo_succ, show S.boxes.getD k [] = S.boxes[k] from by simp [List.getD, hlt], visit_set_now _ _ _ _ _ _ _ _ _ _ _ _ _ _ hk3]
            repeat (with_reducible (first | refine heap_drew ?_ | refine heap_set_ne (by omega) ?_ | apply heap_set | exact HV.out))
            all_goals rfl
          · repeat (with_reducible (first | refine Ext.drew ?_ | refine Ext.set ?_ (by omega) | exact hE))
        case measure => simp [intOf]; omega
    · obtain rfl : k = S.boxes.length := by omega
      clear hsb hvb hE1 hvr
      have q3 := cell_of_heap hsr 3
      simp at q3
      clear hsr q0 q1
      go_wp2
      go_loopw [38] (fun i wr => ∃ k : Nat, k ≤ S.keeps.length ∧ i = .int .i64 k ∧
          wr.heap[w.heap.size]? = some (.cells #[.slice p0 S.boxes.length c0, .slice p1 S.stock.length c1, .slice p2 S.earn.length c2, .slice p3 S.keeps.length c3, .int .i64 S.changes] 26) ∧
          wr.heap[w.heap.size + 1]? = some (.cells (visitCells p0 c0 p1 c1 p2 c2 p3 c3 ⟨S, nowTo S S.boxes.length, keepTo (S.keeps.take k), copiesTo S (fun _ => 0) 0⟩) 93) ∧ Ext w wr) (fun i _ => S.keeps.length - (intOf i).toNat)
      case atStart => exact ⟨0, by omega, rfl, HSB.out, HV.out, hE⟩
      case round =>
        clear HSB HV hE q3
        obtain ⟨k, hk, rfl, hsr, hvr, hE⟩ := hrel
        have HV := Lib.hid hvr
        have HSB := Lib.hid hsr
        by_cases hlt : k < S.keeps.length
        · obtain ⟨b1, o1, rfl, hc1, hc2⟩ := (h3.ext hE).at k hlt
          obtain ⟨hk1, hk2, -⟩ := hS.keep k hlt
          obtain ⟨ht1, ht2⟩ := ints_mem_bound hS k hlt
          have hlast : S.keeps.take (k + 1) = S.keeps.take k ++ [S.keeps[k]] := List.take_succ_eq_append_getElem hlt
          have hK64 := keepTo_lt hS k hk
          obtain ⟨K, hK⟩ : ∃ K, K = S.keeps[k] := ⟨_, rfl⟩
          rw [← hK] at hc1 hc2 hk1 hk2 ht1 ht2 hlast
          obtain ⟨K1, K2⟩ := K
          simp only at hc1 hc2 hk1 hk2 ht1 ht2
          obtain ⟨kb, rfl⟩ := Int.eq_ofNat_of_zero_le hk1
          obtain ⟨kt, rfl⟩ := Int.eq_ofNat_of_zero_le ht1
          have hkb3 : kb < 3 := by omega
          have hpw := wrap_pow kt (by omega)
          obtain ⟨P2, hP2⟩ : ∃ P2 : Nat, P2 = 2 ^ kt := ⟨_, rfl⟩
          have hP64 : P2 < 64 := by rw [hP2]; exact Nat.pow_lt_pow_right (n := 6) (a := 2) (by decide) (by omega)
          rw [← hP2] at hpw
          have hor := bits_or_u64_nat (keepTo (S.keeps.take k) kb) P2 (by have := hK64 kb; omega) (by omega)
          have HL := Lib.hid hlast
          have HP2 := Lib.hid hP2
          have hs1 : w.heap.size + 1 < wr.heap.size := (Array.getElem?_eq_some_iff.1 hvr).1
          clear hlast hP2 hK hvr hsr hK64
          go_upto_region 10 with (fail)
          obtain ⟨W2, hW2⟩ : ∃ W2, W2 = wr.alloc (.cells #[.int .i64 kb, .int .i64 kt] 45) := ⟨_, rfl⟩
          have hE2 : Ext wr W2 := by rw [hW2]; exact Ext.alloc (Ext.refl _) _
          have hn2 := heap_new wr (.cells #[.int .i64 kb, .int .i64 kt] 45)
          rw [← hW2] at hn2 ⊢
          have n0 := cell_of_heap hn2 0
          have n1 := cell_of_heap hn2 1
          simp at n0 n1
          have hv2 := (Below.block hE2 _ hs1).trans HV.out
          have HS2 := Lib.hid ((Below.block hE2 _ (by omega)).trans HSB.out)
          have HV2 := Lib.hid hv2
          have hc := cell_of_heap hv2 (8 + kb)
          have hcv : (visitCells p0 c0 p1 c1 p2 c2 (some ⟨b1, o1, none⟩) c3 ⟨S, nowTo S S.boxes.length, keepTo (S.keeps.take k), copiesTo S (fun _ => 0) 0⟩)[8 + kb]? = some (.int .u64 (keepTo (S.keeps.take k) kb)) := by
            obtain rfl | rfl | rfl : kb = 0 ∨ kb = 1 ∨ kb = 2 := by omega
            all_goals rfl
          rw [hcv] at hc
          have hfz := cell_frozen hv2 (8 + kb)
          obtain ⟨kk, hkk⟩ : ∃ kk, kk = keepTo (S.keeps.take k) kb := ⟨_, rfl⟩
          rw [← hkk] at hc hor
          have HKK := Lib.hid hkk
          clear hW2 hcv hv2 hkk hn2
          go_region
          all_goals
            go_wp2
            go_roundw
            case rel =>
              refine ⟨k + 1, by omega, by go_num, ?_, ?_, ?_⟩
              · repeat (with_reducible (first | refine heap_drew ?_ | refine heap_set_ne (by omega) ?_ | exact HS2.out))
              · rw [HL.out, keepTo_snoc, visit_set_keeps _ _ _ _ _ _ _ _ _ _ _ _ _ _ (by simpa using hkb3)]
                repeat (with_reducible (first | refine heap_drew ?_ | refine heap_set_ne (by omega) ?_ | apply heap_set | exact HV2.out))
                all_goals (simp only [Int.toNat_natCast]; rw [← HKK.out, ← HP2.out])
              · repeat (with_reducible (first | refine Ext.drew ?_ | refine Ext.set ?_ (by omega) | exact hE.trans hE2))
            case measure => simp [intOf]; omega
        · obtain rfl : k = S.keeps.length := by omega
          rw [List.take_length] at hvr
          have HV2 := Lib.hid hvr
          have q1 := cell_of_heap hsr 1
          simp at q1
          clear hsr hvr HV
          go_wp2
          go_loopw [60] (fun i wr => ∃ k : Nat, k ≤ S.stock.length ∧ i = .int .i64 k ∧
              wr.heap[w.heap.size + 1]? = some (.cells (visitCells p0 c0 p1 c1 p2 c2 p3 c3 ⟨S, nowTo S S.boxes.length, keepTo S.keeps, copiesTo S (nowTo S S.boxes.length) k⟩) 93) ∧ Ext w wr) (fun i _ => S.stock.length - (intOf i).toNat)
          case atStart => exact ⟨0, by omega, rfl, HV2.out, hE⟩
          case round =>
            clear hE HSB HV2 q1
            obtain ⟨t, ht, rfl, hvr, hE⟩ := hrel
            have HV := Lib.hid hvr
            by_cases hlt : t < S.stock.length
            · obtain ⟨b1, o1, rfl, hc1⟩ := (h1.ext hE).at t hlt
              obtain ⟨hst1, hst2⟩ := hS.st t hlt
              have hs1 : w.heap.size + 1 < wr.heap.size := (Array.getElem?_eq_some_iff.1 hvr).1
              have g0 := cell_of_heap hvr 5
              have g1 := cell_of_heap hvr 6
              have g2 := cell_of_heap hvr 7
              rw [show (visitCells p0 c0 (some ⟨b1, o1, none⟩) c1 p2 c2 p3 c3 ⟨S, nowTo S S.boxes.length, keepTo S.keeps, copiesTo S (nowTo S S.boxes.length) t⟩)[5]? = some (.int .u64 (nowTo S S.boxes.length 0)) from rfl] at g0
              rw [show (visitCells p0 c0 (some ⟨b1, o1, none⟩) c1 p2 c2 p3 c3 ⟨S, nowTo S S.boxes.length, keepTo S.keeps, copiesTo S (nowTo S S.boxes.length) t⟩)[6]? = some (.int .u64 (nowTo S S.boxes.length 1)) from rfl] at g1
              rw [show (visitCells p0 c0 (some ⟨b1, o1, none⟩) c1 p2 c2 p3 c3 ⟨S, nowTo S S.boxes.length, keepTo S.keeps, copiesTo S (nowTo S S.boxes.length) t⟩)[7]? = some (.int .u64 (nowTo S S.boxes.length 2)) from rfl] at g2
              have hHC := boxes07 (nowTo S S.boxes.length) t wr.drew (fun k _ => nowTo_lt hS _ k) (by omega)
              have hcb := cntB_le (nowTo S S.boxes.length) t 3
              obtain ⟨f, hf⟩ : ∃ f, f = nowTo S S.boxes.length := ⟨_, rfl⟩
              rw [← hf] at g0 g1 g2 hHC hcb
              obtain ⟨m, hm⟩ : ∃ m, m = cntB f t 3 := ⟨_, rfl⟩
              rw [← hm] at hHC hcb
              have hsum : IntKind.i64.wrap (S.stock[t] + (m : Int)) = S.stock[t] + m := IntWalk.i64_in _ (by omega)
              unfold pl3 at hHC
              have HC2 := Lib.hid hHC
              have HF := Lib.hid hf
              have HM := Lib.hid hm
              clear hvr hf hm hHC
              go_upto_region 15 with (fail)
              go_region_with (go_at_call 86; refine HC2.out.mono ?_; rintro e W5 ⟨rfl, hE5⟩; have hv5 := (Below.block hE5 _ hs1).trans HV.out; have hc5 := (cell_of_heap hv5 (11 + t)).trans (visit_copies_cell _ _ _ _ _ _ _ _ _ _ _ _ t (by omega)); have hf5 := cell_frozen hv5 (11 + t); have HV5 := Lib.hid hv5; clear hv5)
              all_goals
                go_wp2
                go_roundw
                case rel =>
                  refine ⟨t + 1, by omega, by go_num, ?_, ?_⟩
                  · rw [copiesTo_succ, visit_set_copies _ _ _ _ _ _ _ _ _ _ _ _ _ _ (by omega), show S.stock.getD t 0 = S.stock[t] from by simp [List.getD, hlt]]
                    repeat (with_reducible (first | refine heap_drew ?_ | refine heap_set_ne (by omega) ?_ | apply heap_set | exact HV5.out))
                    all_goals (rw [← HF.out, ← HM.out])
                  · repeat (with_reducible (first | refine Ext.drew ?_ | refine Ext.set ?_ (by omega) | exact (hE.drew).trans hE5))
                case measure => simp [intOf]; omega
            · obtain rfl : t = S.stock.length := by omega
              go_wp2
              go_ret
              refine ⟨w.heap.size + 1, rfl, fun a ha hva => ?_, hE, by omega⟩
              obtain ⟨p0', c0', p1', c1', p2', c2', p3', c3', he, k0, k1, k2, k3⟩ := hva
              have hsz := ha.size
              simp only [Value.agg.injEq, Array.mk.injEq, List.cons.injEq, Value.slice.injEq, and_true, true_and] at he
              obtain ⟨⟨rfl, rfl⟩, ⟨rfl, rfl⟩, ⟨rfl, rfl⟩, rfl, rfl⟩ := he
              exact ⟨_, _, _, _, _, _, _, _, ha.trans hE, by omega, hvr, k0, k1, k2, k3⟩

theorem open07 (v : Value) (S : Swap) (w : World) (hv : SwapV w v S) (hS : Valid S) :
    Calls Try.prog 53 #[v] w fun e w' => ∃ b, e = .returned (.pointer (some ⟨b, 0, none⟩)) ∧ VisitAt w' b (openV S) ∧ Ext w w' ∧ w.heap.size ≤ b :=
  (open07s v S w hv hS).mono fun _ _ ⟨b, h1, h2, h3, h4⟩ => ⟨b, h1, (h2 w (Ext.refl w) hv).at, h3, h4⟩
end Go.Proofs.Ytpgjkmjejpfkmaa
