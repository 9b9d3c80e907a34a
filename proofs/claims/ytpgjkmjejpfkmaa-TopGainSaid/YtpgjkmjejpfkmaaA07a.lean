/- The walks of list and Plan of package swaps. -/
import Derived.Test.YtpgjkmjejpfkmaaR07d
import Derived.Test.YtpgjkmjejpfkmaaF07b
namespace Go.Proofs.Ytpgjkmjejpfkmaa
open Go.RowKit

/-- the titles of a set that are less than n -/
def lstTo (m n : Nat) : List Int := ((List.range n).filter fun t => m.testBit t).map fun t : Nat => (t : Int)
def lstOf (m : Nat) : List Int := lstTo m 6
theorem lstTo_succ (m n : Nat) : lstTo m (n + 1) = lstTo m n ++ (if m.testBit n then [(n : Int)] else []) := by
  unfold lstTo
  rw [List.range_succ, List.filter_append, List.map_append]
  congr 1
  by_cases h : m.testBit n = true
  · simp [h]
  · simp [h]
theorem lstTo_len (m n : Nat) : (lstTo m n).length ≤ n := by
  unfold lstTo
  rw [List.length_map]
  exact Nat.le_trans (List.length_filter_le _ _) (by simp)

set_option maxHeartbeats 800000 in
set_option maxRecDepth 20000 in
theorem list07 (m : Nat) (w : World) (hm : m < 64) :
    Calls Try.prog 85 #[.int .u64 m] w (fun e w' => ∃ v, e = .returned v ∧ w'.ownsRow w.heap.size 3 1 v (lstOf m).length (intVs (lstOf m)) ∧ Ext w w') := by
  have HC := Lib.hid (fun (t : Nat) (ht : t < 64) (w' : World) => has07 m t w' hm ht)
  obtain ⟨i0, hi, hz0, hz1, hz2⟩ := info_parts info_a
  go_enter Try.func85, Try.ntmps85
  go_wp2
  go_loopw [3, 5] (fun u i wr => ∃ k : Nat, k ≤ 6 ∧ i = .int .i64 k ∧ Ext w wr ∧ wr.ownsRow w.heap.size 3 1 u (lstTo m k).length (intVs (lstTo m k))) (fun _ i _ => 6 - (intOf i).toNat)
  case atStart => exact ⟨0, by omega, rfl, Ext.refl _, World.ownsRow_nil _ _ _ _⟩
  case round =>
    obtain ⟨k, hk, rfl, hE, hown⟩ := hrel
    have hlen := lstTo_len m k
    have hsn := lstTo_succ m k
    by_cases hlt : k < 6
    · by_cases hb : m.testBit k = true
      · rw [if_pos hb] at hsn
        have HO := Lib.hid hown
        have HE := Lib.hid hE
        have HSN := Lib.hid hsn
        have HCC := HC.out k (by omega) wr
        rw [hb] at HCC
        have HC2 := Lib.hid HCC
        clear hown hE hsn hb HCC
        go_wp2_with fail
        refine HC2.out.mono ?_
        rintro e w2 ⟨rfl, hQ⟩
        have HO2 := Lib.hid (ownsRow_ext HO.out (Qt.ext hQ))
        have HX2 := Lib.hid (HE.out.trans (Qt.ext hQ))
        have hsz3' := HX2.out.size
        clear hQ HO HE
        go_wp2_with (at_builtin; refine wpList_append_lies _ rfl (.tmp 11) (.tmp 13) 23 rfl w.heap.size 3 i0 (.int .i64 0) 1 8 Try.underlying23 hi hz0 hz1 hz2 rfl (by decide) _ (lstTo m k).length _ rfl (HO2.out.alloc _) ⟨w2.heap.size, 0, none⟩ 1 1 [.int .i64 k] rfl rfl ?c1 ?c2 (by decide) ?c3 ?c4 ?c5 (w2.heap.size + 1) (size_alloc _ _) ?_)
        case c1 =>
          intro j u hj
          match j, hj with
          | 0, hj => simp at hj; subst hj; simp [Addr.add]
        case c2 => intro u hu; simp at hu; subst hu; rfl
        case c3 => unfold maxLen; omega
        case c4 => omega
        case c5 => rw [size_alloc]; omega
        intro g4 cap4 w4 hown4 hgr4 hat4 hlt4
        have hE4 : Ext w w4 := Below.grown (HX2.out.alloc _) hgr4 (by rw [size_alloc]; omega) (fun j hj => (HO2.out.lt j hj).1)
        have HO4 := Lib.hid hown4
        have HE4 := Lib.hid hE4
        clear hown4 hgr4 hat4 hlt4 hE4 HO2 HX2 hsz3'
        go_wp2
        go_roundw
        case rel => exact ⟨k + 1, by omega, by go_num, HE4.out, by rw [HSN.out, intVs_snoc, List.length_append]; exact HO4.out⟩
        case measure => simp [intOf]; omega
      · rw [if_neg hb, List.append_nil] at hsn
        have HO := Lib.hid hown
        have HE := Lib.hid hE
        have HSN := Lib.hid hsn
        have HCC := HC.out k (by omega) wr
        rw [Bool.not_eq_true _ |>.mp hb] at HCC
        have HC2 := Lib.hid HCC
        clear hown hE hsn hb HCC
        go_wp2_with fail
        refine HC2.out.mono ?_
        rintro e w2 ⟨rfl, hQ⟩
        have HO2 := Lib.hid (ownsRow_ext HO.out (Qt.ext hQ))
        have HX2 := Lib.hid (HE.out.trans (Qt.ext hQ))
        clear hQ HO HE
        go_wp2
        go_roundw
        case rel => exact ⟨k + 1, by omega, by go_num, HX2.out, by rw [HSN.out]; exact HO2.out⟩
        case measure => simp [intOf]; omega
    · obtain rfl : k = 6 := by omega
      have HO := Lib.hid hown
      have HE := Lib.hid hE
      clear hown hE
      go_wp2
      go_ret
      exact ⟨_, rfl, HO.out, HE.out⟩

/-- the plan that Best finds -/
theorem best_spec2 (V : Visit) (L : List (Nat → Nat)) : ((bestOf V L).1 = -1 ∧ (bestOf V L).2 = fun _ => 0) ∨ ∃ q ∈ L, (bestOf V L).2 = q := by
  induction L using snocInd with
  | h0 => exact Or.inl ⟨rfl, rfl⟩
  | hs l x ih =>
    rw [bestOf_snoc]
    unfold bestStep
    by_cases hl : (bestOf V l).1 < sumTo V x V.S.boxes.length
    · rw [if_pos hl]
      exact Or.inr ⟨x, by simp, rfl⟩
    · rw [if_neg hl]
      rcases ih with h | ⟨q, hq, h⟩
      · exact Or.inl h
      · exact Or.inr ⟨q, by simp [hq], h⟩
theorem best_val {V : Visit} (L : List (Nat → Nat)) : L ≠ [] → VOK V → (bestOf V L).2 ∈ L ∧ (bestOf V L).1 = sumTo V (bestOf V L).2 V.S.boxes.length := by
  induction L using snocInd with
  | h0 => intro h; exact absurd rfl h
  | hs l x ih =>
    intro _ hO
    rw [bestOf_snoc]
    unfold bestStep
    have hx := (sumTo_bd hO x V.S.boxes.length).1
    by_cases hl : (bestOf V l).1 < sumTo V x V.S.boxes.length
    · rw [if_pos hl]
      exact ⟨by simp, rfl⟩
    · rw [if_neg hl]
      have hne : l ≠ [] := by
        rintro rfl
        exact hl (by show (-1 : Int) < _; omega)
      obtain ⟨h1, h2⟩ := ih hne hO
      exact ⟨by simp [h1], h2⟩
theorem planF_lt {V : Visit} {f : Nat → Nat} (h : PlanF V f) (hT : V.S.stock.length ≤ 6) (k : Nat) : f k < 64 := by
  by_cases hk : k < V.S.boxes.length
  · have := (h.box k hk).1
    have h2 : 2 ^ V.S.stock.length ≤ 2 ^ 6 := Nat.pow_le_pow_right (by decide) hT
    omega
  · rw [h.rest k (by omega)]; decide

/-- a plan of lists -/
def lstP (f : Nat → Nat) (n : Nat) : List (List Int) := (List.range n).map fun k => lstOf (f k)
theorem lstP_succ (f : Nat → Nat) (n : Nat) : lstP f (n + 1) = lstP f n ++ [lstOf (f n)] := by simp [lstP, List.range_succ]
theorem lstP_len (f : Nat → Nat) (n : Nat) : (lstP f n).length = n := by simp [lstP]

theorem best_lt {S : Swap} (hS : Valid S) (k : Nat) : (bestOf (openV S) (plansL (openV S) (openV S).S.boxes.length (fun _ => 0) 0)).2 k < 64 := by
  have hO := openV_ok hS
  rcases best_spec2 (openV S) (allP (openV S)) with ⟨-, h⟩ | ⟨q, hq, h⟩
  · have h' : (bestOf (openV S) (plansL (openV S) (openV S).S.boxes.length (fun _ => 0) 0)).2 = fun _ => 0 := h
    rw [h']
    exact (by decide : (0 : Nat) < 64)
  · have h' : (bestOf (openV S) (plansL (openV S) (openV S).S.boxes.length (fun _ => 0) 0)).2 = q := h
    rw [h']
    exact planF_lt ((mem_allP hO q).1 hq) hO.stock k

def PlanPost (S : Swap) (w : World) (e : Ending) (w' : World) : Prop :=
  (Valid S ∧ ∃ v, e = .returned (.tuple #[v, .int .i64 0]) ∧ ListsV w' v (lstP (bestOf (openV S) (allP (openV S))).2 S.boxes.length) ∧ Ext w w') ∨
  (¬Valid S ∧ e = .returned (.tuple #[.slice none 0 0, .int .i64 70]) ∧ Ext w w')

theorem lists_of_own {w : World} {B : Nat} {v : Value} {L : List (List Int)} {vs : List Value} (h : w.ownsRow B 23 1 v L.length vs) (hv : ∀ i (hi : i < L.length), ∃ u, vs[i]? = some u ∧ IntsV w u L[i]) : ListsV w v L := by
  have key : ∀ p cc, v = .slice p L.length cc → ListsAt w p L := by
    intro p cc hvv i hi
    obtain ⟨b, c', he, hc⟩ := ownsRow_at h i hi
    rw [hvv] at he
    cases he
    obtain ⟨u, hu, hI⟩ := hv i hi
    exact ⟨b, 0, u, rfl, by rw [Nat.zero_add, hc, hu], hI⟩
  rcases h.2 with ⟨hvv, h0⟩ | ⟨b, cap, cur, hvv, -⟩
  · exact ⟨none, 0, by rw [hvv, h0], key none 0 (by rw [hvv, h0])⟩
  · exact ⟨_, cap, hvv, key _ cap hvv⟩

/-- rows that a call has laid, empty ones perhaps without a block -/
structure RowsV (w : World) (B : Nat) (u : Value) (vs : List Value) (L : List (List Int)) : Prop where
  len : vs.length = L.length
  out : w.ownsRow B 23 1 u vs.length vs
  row : ∀ i (h : i < L.length), ∃ x, vs[i]? = some x ∧ w.ownsRow B 3 1 x L[i].length (intVs L[i]) ∧ (x.ownBlock = none ∨ x.ownBlock ≠ u.ownBlock)
theorem RowsV.nil (w : World) (B : Nat) : RowsV w B (.slice none 0 0) [] [] := ⟨rfl, World.ownsRow_nil _ _ _ _, fun i h => absurd h (by simp)⟩
theorem RowsV.lists {w : World} {B : Nat} {u : Value} {vs : List Value} {L : List (List Int)} (h : RowsV w B u vs L) : ListsV w u L :=
  lists_of_own (by rw [← h.len]; exact h.out) fun i hi => by
    obtain ⟨x, h1, h2, -⟩ := h.row i hi
    exact ⟨x, h1, ownsRow_ints h2⟩
theorem RowsV.step {wr w2 w4 : World} {o : Obj} {B : Nat} {u x : Value} {vs : List Value} {L : List (List Int)} {l : List Int} {g4 cap4 n : Nat} (h : RowsV wr B u vs L) (hB : B ≤ wr.heap.size) (hE : Ext wr w2)
    (hx : w2.ownsRow wr.heap.size 3 1 x l.length (intVs l)) (h4 : w4.ownsRow B 23 1 (.slice (some ⟨g4, 0, none⟩) n cap4) (vs.length + 1) (vs ++ [x])) (hg : (w2.alloc o).grownBy w4 u.ownBlock)
    (hat : u.ownBlock = some g4 ∨ g4 = (w2.alloc o).heap.size) : RowsV w4 B (.slice (some ⟨g4, 0, none⟩) n cap4) (vs ++ [x]) (L ++ [l]) := by
  have hsa : (w2.alloc o).heap.size = w2.heap.size + 1 := size_alloc w2 o
  have hub : ∀ b, u.ownBlock = some b → b < wr.heap.size := fun b hb => (h.out.lt b hb).2
  have hsz := hE.size
  refine ⟨by simp [h.len], by rw [List.length_append]; exact h4, ?_⟩
  intro i hi
  rw [List.length_append, List.length_singleton] at hi
  by_cases hik : i < L.length
  · obtain ⟨y, h1, h2, h3⟩ := h.row i hik
    refine ⟨y, by rw [List.getElem?_append_left (by have := h.len; omega)]; exact h1, ?_, ?_⟩
    · rw [List.getElem_append_left hik]
      exact ((ownsRow_ext h2 hE).alloc o).kept hg h3
    · cases hy : y.ownBlock with
      | none => exact Or.inl rfl
      | some b =>
        refine Or.inr ?_
        rw [hy] at h3
        have hb := (h2.lt b hy).2
        intro he
        have he' : b = g4 := by simpa [Value.ownBlock] using he
        rcases hat with ha | ha
        · rcases h3 with h3 | h3
          · cases h3
          · exact h3 (by rw [ha, he'])
        · omega
  · obtain rfl : i = L.length := by omega
    have hv : (vs ++ [x])[L.length]? = some x := by rw [← h.len]; simp
    have hL : (L ++ [l])[L.length] = l := by simp
    refine ⟨x, hv, ?_, ?_⟩
    · rw [hL]
      refine ((ownsRow_base hx hB).alloc o).kept hg ?_
      cases hy : x.ownBlock with
      | none => exact Or.inl rfl
      | some b =>
        refine Or.inr fun he => ?_
        have := (hx.lt b hy).1
        have := hub b he.symm
        omega
    · cases hy : x.ownBlock with
      | none => exact Or.inl rfl
      | some b =>
        refine Or.inr fun he => ?_
        have he' : b = g4 := by simpa [Value.ownBlock] using he
        have h5 := hx.lt b hy
        rcases hat with ha | ha
        · have := hub g4 ha; omega
        · omega

set_option maxRecDepth 20000 in
set_option maxHeartbeats 1600000 in
theorem Plan07 (v : Value) (S : Swap) (w : World) (hv : SwapV w v S) (hM : Modest S) : Calls Try.prog 51 #[v] w (PlanPost S w) := by
  have hC := fun w' (h : Ext w w') => Check07 v S w' (SwapV.mono _ _ _ _ h hv) hM
  obtain ⟨p0, c0, p1, c1, p2, c2, p3, c3, rfl, h0, h1, h2, h3⟩ := id hv
  have HC := Lib.hid hC
  clear hC h0 h1 h2 h3
  by_cases hS : Valid S
  · have HS := Lib.hid hS
    have hb3 := hS.boxes
    have HC2 := Lib.hid (fun w' h => (HC.out w' h).mono (R' := RetE (.int .i64 0) w') (fun e w'' hh => by rw [← chk_t hS]; exact hh))
    clear HC hS
    go_enter Try.func51, Try.ntmps51
    go_upto_region 1 with (fail)
    have hn := heap_new w (.cells #[.slice p0 S.boxes.length c0, .slice p1 S.stock.length c1, .slice p2 S.earn.length c2, .slice p3 S.keeps.length c3, .int .i64 S.changes] 26)
    obtain ⟨W, hW⟩ : ∃ W, W = w.alloc (.cells #[.slice p0 S.boxes.length c0, .slice p1 S.stock.length c1, .slice p2 S.earn.length c2, .slice p3 S.keeps.length c3, .int .i64 S.changes] 26) := ⟨_, rfl⟩
    have hE : Ext w W := by rw [hW]; exact Ext.alloc (Ext.refl w) _
    rw [← hW] at hn ⊢
    have q0 := ExtW.cell (v := .slice p0 S.boxes.length c0) (cell_of_heap hn 0)
    have q1 := ExtW.cell (v := .slice p1 S.stock.length c1) (cell_of_heap hn 1)
    have q2 := ExtW.cell (v := .slice p2 S.earn.length c2) (cell_of_heap hn 2)
    have q3 := ExtW.cell (v := .slice p3 S.keeps.length c3) (cell_of_heap hn 3)
    have q4 := ExtW.cell (v := .int .i64 S.changes) (cell_of_heap hn 4)
    obtain ⟨x0, hx0⟩ := ExtW.of (Ext.refl W)
    have HV := Lib.hid hv
    clear hW hn hv
    conv => arg 5; rw [hx0]
    clear hx0
    go_wp2_with fail
    refine (ExtW.call (HC2.out _ (hE.trans x0.h))).mono ?_
    rintro e _ ⟨rfl, x1, rfl⟩
    go_wp2_with fail
    refine (open07 _ S x1.w (SwapV.mono _ _ _ _ (hE.trans x1.h) HV.out) HS.out).mono ?_
    rintro e W2 ⟨b, rfl, hvis, hE2, -⟩
    go_wp2_with fail
    have hB := best07 (openV S) (openV_ok HS.out) b W2 hvis
    obtain ⟨mp, hmp⟩ : ∃ mp, mp = bestOf (openV S) (plansL (openV S) (openV S).S.boxes.length (fun _ => 0) 0) := ⟨_, rfl⟩
    have hok : ∀ k, mp.2 k < 64 := by
      rw [hmp]
      exact best_lt HS.out
    rw [← hmp] at hB
    obtain ⟨m1, f⟩ := mp
    unfold pl3 at hB
    have HMP := Lib.hid hmp
    have HOK := Lib.hid hok
    clear hmp hok
    refine hB.mono ?_
    rintro e W3 ⟨rfl, hE3⟩
    clear hB
    have hc0 := (hE2.trans hE3).cell (q0 x1)
    have HEW := Lib.hid (((hE.trans x1.h).trans hE2).trans hE3)
    have hlt := lt_of_cell hc0
    clear q0 q1 q2 q3 q4 hvis hE2 hE3 HC2 HV
    go_upto_region 5 with (fail)
    have hp := heap_new W3 (.cells #[.int .u64 (f 0), .int .u64 (f 1), .int .u64 (f 2)] 78)
    obtain ⟨W4, hW4⟩ : ∃ W4, W4 = W3.alloc (.cells #[.int .u64 (f 0), .int .u64 (f 1), .int .u64 (f 2)] 78) := ⟨_, rfl⟩
    have hE4 : Ext W3 W4 := by rw [hW4]; exact Ext.alloc (Ext.refl W3) _
    rw [← hW4] at hp ⊢
    have hzk : ∀ (x : World), Ext W4 x → ∀ k, k < 3 → x.cell? ⟨W3.heap.size, k, none⟩ = some (.int .u64 (f k)) := by
      intro x hx k hk
      have := hx.cell (v := .int .u64 (f k)) (b := W3.heap.size) (o := k) (by rw [hW4]; exact pl3_cell k hk)
      exact this
    have HZK := Lib.hid hzk
    have hc3 : ∀ x, Ext W4 x → x.cell? ⟨w.heap.size, 0, none⟩ = some (.slice p0 S.boxes.length c0) := fun x hx => hx.cell (hE4.cell hc0)
    have hc4 := hc3 W4 (Ext.refl _)
    have HE4 := Lib.hid (HEW.out.trans hE4)
    obtain ⟨i1, hi1, hz1, hy1, hb1⟩ := info_parts info_b
    clear hW4 hp hc0 hE4 hzk HEW hc3
    go_wp2
    go_loopw [7, 23] (fun u i wr => ∃ k : Nat, k ≤ S.boxes.length ∧ i = .int .i64 k ∧ Ext W4 wr ∧ ∃ vs : List Value, RowsV wr W4.heap.size u vs (lstP f k)) (fun _ i _ => S.boxes.length - (intOf i).toNat)
    case atStart => exact ⟨0, by omega, rfl, Ext.refl _, [], RowsV.nil _ _⟩
    case round =>
      obtain ⟨k, hk, rfl, hx, vs, hrv⟩ := hrel
      have hlv : vs.length = k := by rw [hrv.len, lstP_len]
      by_cases hltk : k < S.boxes.length
      · have hck := HZK.out wr hx k (by omega)
        have HRV := Lib.hid hrv
        have HX := Lib.hid hx
        have HLV := Lib.hid hlv
        have hvs : vs.length ≤ 3 := by omega
        clear hrv hx hlv
        go_wp2_with fail
        refine (list07 (f k) wr (HOK.out k)).mono ?_
        rintro e w2 ⟨v2, rfl, hi2, hE2⟩
        obtain ⟨p2', c2', rfl, -⟩ := ownsRow_ints hi2
        have HI2 := Lib.hid hi2
        have HO2 := Lib.hid (ownsRow_ext HRV.out.out hE2)
        have hszr := HX.out.size
        have HX2 := Lib.hid (HX.out.trans hE2)
        have HEE := Lib.hid hE2
        have hsz3' := HX2.out.size
        obtain ⟨nn, hnn⟩ : ∃ nn, nn = (lstOf (f k)).length := ⟨_, rfl⟩
        have HNN := Lib.hid hnn
        rw [← hnn]
        clear hE2 hi2 hnn
        go_wp2_with (at_builtin; refine wpList_append_lies _ rfl (.tmp 26) (.tmp 31) 22 rfl W4.heap.size 23 i1 (.slice none 0 0) 1 24 Try.underlying22 hi1 hz1 hy1 hb1 rfl (by decide) _ vs.length _ rfl (HO2.out.alloc _) ⟨w2.heap.size, 0, none⟩ 1 1 [.slice p2' nn c2'] rfl rfl ?c1 ?c2 (by decide) ?c3 ?c4 ?c5 (w2.heap.size + 1) (size_alloc _ _) ?_)
        case c1 =>
          intro j u hj
          match j, hj with
          | 0, hj => simp at hj; subst hj; simp [Addr.add]
        case c2 => intro u hu; simp at hu; subst hu; rfl
        case c3 => unfold maxLen; omega
        case c4 => omega
        case c5 => rw [size_alloc]; omega
        intro g4 cap4 w4 hown4 hgr4 hat4 hlt4
        have hE4 : Ext W4 w4 := Below.grown (HX2.out.alloc _) hgr4 (by rw [size_alloc]; omega) (fun j hj => (HO2.out.lt j hj).1)
        have hstep := RowsV.step HRV.out hszr HEE.out HI2.out (by rw [← HNN.out]; exact hown4) hgr4 (by rw [size_alloc]; exact hat4)
        have HST := Lib.hid hstep
        have HE5 := Lib.hid hE4
        clear hown4 hgr4 hat4 hlt4 hE4 HO2 hsz3' hstep hszr
        go_wp2
        go_roundw
        case rel => exact ⟨k + 1, by omega, by go_num, HE5.out, _, by rw [lstP_succ]; exact HST.out⟩
        case measure => simp [intOf]; omega
      · obtain rfl : k = S.boxes.length := by omega
        have HRV := Lib.hid hrv
        have HX := Lib.hid hx
        clear hrv hx hlv
        go_wp2
        go_ret2
        have hf : f = (bestOf (openV S) (allP (openV S))).2 := congrArg Prod.snd HMP.out
        refine Or.inl ⟨HS.out, _, rfl, ?_, HE4.out.trans HX.out⟩
        rw [← hf]
        exact HRV.out.lists
  · have HS := Lib.hid hS
    have HC2 := Lib.hid (fun w' h => (HC.out w' h).mono (R' := RetE (.int .i64 70) w') (fun e w'' hh => by rw [← chk_f hS]; exact hh))
    clear HC hS
    go_enter Try.func51, Try.ntmps51
    go_wp2_with fail
    refine (HC2.out _ (Ext.alloc (Ext.refl w) _)).mono ?_
    rintro e W2 ⟨rfl, hE2⟩
    go_wp2
    go_ret2
    exact Or.inr ⟨HS.out, rfl, (Ext.alloc (Ext.refl w) _).trans hE2⟩
end Go.Proofs.Ytpgjkmjejpfkmaa
