
/- Two meters whose truths are alike answer alike. The walks of the reference's small functions. The walks of the reference's Check, Far, ready. The walk of Copy: a meter in memory of its own. The walk of Example. -/
import Derived.Test.YtppncdbhebgcaaaXG
namespace Go.Proofs.Ytppncdbhebgcaaa
open Go.RowKit

theorem bits_ext {A B : Nat} (h : ∀ n, n < 1536 → A.testBit n = B.testBit n) : bitsN A = bitsN B := by
  unfold bitsN
  exact List.filter_congr fun n hn => h n (List.mem_range.1 hn)
theorem sumsL_ext {M N : Mt} (hM : ValidM M) (hN : ValidM N) {a b c d : Nat} (hab : a ≤ b) (hb : b ≤ M.weeks.length) (hcd : c ≤ d) (hd : d ≤ N.weeks.length)
    (h : ∀ x, PlaysP M a b x ↔ PlaysP N c d x) : sumsL M a b = sumsL N c d := by
  unfold sumsL
  refine bits_ext fun n _ => Bool.eq_iff_iff.2 ?_
  rw [between_law hM hab hb, between_law hN hcd hd]
  exact h n
theorem showsL_ext {M N : Mt} (hM : ValidM M) (hN : ValidM N) {a b : Nat} (ha : a ≤ M.weeks.length) (hb : b ≤ N.weeks.length)
    (h : ∀ x, ShownP M a x ↔ ShownP N b x) : showsL M a = showsL N b := by
  unfold showsL
  refine List.filter_congr fun s hs => ?_
  have := List.mem_range.1 hs
  refine decide_eq_decide.2 ?_
  rw [shows_iff hM (by omega) (by omega) ha, shows_iff hN (by omega) (by omega) hb]
  exact h s
/-- The truths of one are the truths of the other. -/
structure Iso (M N : Mt) (T U : (Nat → Int) → (Nat → Int)) : Prop where
  rt : To M N T
  lf : To N M U
  wrong : M.wrong = N.wrong
section
variable {M N : Mt} {T U : (Nat → Int) → (Nat → Int)}
theorem Iso.least (h : Iso M N T U) (hM : ValidM M) (hN : ValidM N) : leastN M = leastN N := Int.le_antisymm (least_to hN hM h.lf) (least_to hM hN h.rt)
theorem Iso.ask (h : Iso M N T U) (hM : ValidM M) (hN : ValidM N) : askV M true = askV N true := by rw [askV_t hM, askV_t hN, h.least hM hN, h.wrong]
theorem Iso.tru (h : Iso M N T U) {D : Nat → Int} (hD : Tru M D) : Tru N (T D) := h.rt.tru h.wrong hD
theorem Iso.untru (h : Iso M N T U) {E : Nat → Int} (hE : Tru N E) : Tru M (U E) := h.lf.tru h.wrong.symm hE
theorem Iso.plays (h : Iso M N T U) {a b c d : Nat} {k : Int} (h1 : ∀ D, T D d - T D c = D b - D a + k) (h2 : ∀ E, U E b - U E a + k = E d - E c) (x : Int) : PlaysP M a b x ↔ PlaysP N c d (x + k) := by
  constructor
  · rintro ⟨D, hD, rfl⟩
    exact ⟨T D, h.tru hD, h1 D⟩
  · rintro ⟨E, hE, e⟩
    exact ⟨U E, h.untru hE, by have := h2 E; omega⟩
theorem Iso.sums (h : Iso M N T U) (hM : ValidM M) (hN : ValidM N) {a b c d : Nat} (hab : a ≤ b) (hb : b ≤ M.weeks.length) (hcd : c ≤ d) (hd : d ≤ N.weeks.length)
    (h1 : ∀ D, T D d - T D c = D b - D a) (h2 : ∀ E, U E b - U E a = E d - E c) : sumsL M a b = sumsL N c d :=
  sumsL_ext hM hN hab hb hcd hd fun x => by
    have := h.plays (a := a) (b := b) (c := c) (d := d) (k := 0) (fun D => by have := h1 D; omega) (fun E => by have := h2 E; omega) x
    rwa [Int.add_zero] at this
theorem Iso.shown (h : Iso M N T U) {a b : Nat} {f g : Int → Int} (h1 : ∀ D, T D b % 100 = f (D a % 100)) (h2 : ∀ E, U E a % 100 = g (E b % 100)) (x : Int) :
    (ShownP M a x → ShownP N b (f x)) ∧ (0 ≤ x → x < 100 → ShownP N b x → ShownP M a (g x)) := by
  constructor
  · rintro ⟨D, hD, rfl⟩
    exact ⟨T D, h.tru hD, h1 D⟩
  · rintro - - ⟨E, hE, rfl⟩
    exact ⟨U E, h.untru hE, h2 E⟩
theorem Iso.shows (h : Iso M N T U) (hM : ValidM M) (hN : ValidM N) {a b : Nat} (ha : a ≤ M.weeks.length) (hb : b ≤ N.weeks.length)
    (h1 : ∀ D, T D b % 100 = D a % 100) (h2 : ∀ E, U E a % 100 = E b % 100) : showsL M a = showsL N b :=
  showsL_ext hM hN ha hb fun x => ⟨fun ⟨D, hD, e⟩ => ⟨T D, h.tru hD, by rw [h1, e]⟩, fun ⟨E, hE, e⟩ => ⟨U E, h.untru hE, by rw [h2, e]⟩⟩
/-- how many readings are right or wrong in some truth -/
theorem Iso.can (h : Iso M N T U) (hM : ValidM M) (hN : ValidM N) {r s : Int × Int} (hr : r ∈ M.reads) (hs : s ∈ N.reads) (right : Bool)
    (h1 : ∀ D, (T D s.1.toNat % 100 = s.2) ↔ (D r.1.toNat % 100 = r.2)) (h2 : ∀ E, (U E r.1.toNat % 100 = r.2) ↔ (E s.1.toNat % 100 = s.2)) : canF M r right = canF N s right := by
  rw [can_eq hM hr, can_eq hN hs]
  refine Bool.eq_iff_iff.2 ?_
  rw [can_iff hM hr, can_iff hN hs]
  constructor
  · rintro ⟨D, hD, e⟩
    exact ⟨T D, h.tru hD, by rw [← e]; exact decide_eq_decide.2 (h1 D)⟩
  · rintro ⟨E, hE, e⟩
    exact ⟨U E, h.untru hE, by rw [← e]; exact decide_eq_decide.2 (h2 E)⟩
end
end Go.Proofs.Ytppncdbhebgcaaa
namespace Go.Proofs.Ytppncdbhebgcaaa
open Go.RowKit

theorem winB_t {n lo hi : Int} (h1 : lo ≤ n) (h2 : n ≤ hi) : winB n lo hi = true := by unfold winB; simp [h1, h2]
theorem winB_l {n lo hi : Int} (h1 : ¬lo ≤ n) : winB n lo hi = false := by unfold winB; simp [h1]
theorem winB_r {n lo hi : Int} (h1 : ¬n ≤ hi) : winB n lo hi = false := by unfold winB; simp [h1]
theorem winB_iff {n lo hi : Int} : winB n lo hi = true ↔ lo ≤ n ∧ n ≤ hi := by unfold winB; simp

set_option maxHeartbeats 400000 in
theorem Within02 (n lo hi : Int) (w : World) :
    Calls Try.prog 29 #[.int .i64 n, .int .i64 lo, .int .i64 hi] w (RetE (.bool (winB n lo hi)) w) := by
  go_enter Try.func29, Try.ntmps29
  by_cases h1 : lo ≤ n
  · by_cases h2 : n ≤ hi
    · have H := Lib.hid (winB_t h1 h2)
      go_wp2
      go_ret
      exact RetE.fin (Ext.refl _) (by rw [H.out]; rfl)
    · have H := Lib.hid (winB_r (lo := lo) h2)
      go_wp2
      go_ret
      exact RetE.fin (Ext.refl _) (by rw [H.out]; rfl)
  · have H := Lib.hid (winB_l (hi := hi) h1)
    go_wp2
    go_ret
    exact RetE.fin (Ext.refl _) (by rw [H.out]; rfl)

set_option maxHeartbeats 400000 in
theorem SameInts02 (p q : Option Addr) (a b : List Int) (c d : Nat) (w : World) (hl : a.length ≤ 100000) (hm : b.length ≤ 9223372036854775807) (ha : IntsAt w p a) (hb : IntsAt w q b) :
    Calls Try.prog 23 #[.slice p a.length c, .slice q b.length d] w (RetE (.bool (decide (a = b))) w) := by
  by_cases hlen : a.length = b.length
  · have hlen' : ((a.length : Int) != (b.length : Int)) = false := by simp [hlen]
    have HL := Lib.hid hlen
    clear hlen
    go_enter Try.func23, Try.ntmps23
    go_wp2
    go_loopw [5] (fun i wr => ∃ k : Nat, k ≤ a.length ∧ i = .int .i64 k ∧ a.take k = b.take k ∧ Qt w wr) (fun i _ => a.length - (intOf i).toNat)
    case atStart => exact ⟨0, Nat.zero_le _, rfl, by simp, Qt.refl _⟩
    case round =>
      obtain ⟨k, hk, rfl, hr, hQ⟩ := hrel
      have HR := Lib.hid hr
      clear hr
      replace ha := ha.ext hQ.ext
      replace hb := hb.ext hQ.ext
      by_cases hlt : k < a.length
      · have hlt2 : k < b.length := by have := HL.out; omega
        obtain ⟨b1, o1, rfl, hc1⟩ := ha.at k hlt
        obtain ⟨b2, o2, rfl, hc2⟩ := hb.at k hlt2
        by_cases he : a[k] = b[k]
        · have he' : (a[k] != b[k]) = false := by simpa using he
          have HE := Lib.hid he
          clear he
          go_wp2
          go_quiet (fail)
          go_wp2
          go_roundw
          case rel => exact ⟨k + 1, by omega, by go_num, by rw [List.take_succ_eq_append_getElem hlt, List.take_succ_eq_append_getElem hlt2, HR.out, HE.out], (by repeat (first | exact Qt.refl _ | assumption | refine Qt.drewN ?_ _ | refine Qt.drew ?_))⟩
          case measure => simp [intOf]; omega
        · have he' : (a[k] != b[k]) = true := by simpa using he
          have HE := Lib.hid (show decide (a = b) = false from decide_eq_false (by rintro rfl; exact he rfl))
          clear he
          go_wp2
          go_quiet (fail)
          go_wp2
          go_ret
          exact RetE.fin (Qt.ext (by repeat (first | exact Qt.refl _ | assumption | refine Qt.drewN ?_ _ | refine Qt.drew ?_))) (by rw [HE.out]; rfl)
      · have HE := Lib.hid (show decide (a = b) = true from decide_eq_true (by have h1 := HR.out; have h2 := HL.out; rwa [List.take_of_length_le (by omega), List.take_of_length_le (by omega)] at h1))
        go_wp2
        go_ret
        exact RetE.fin (Qt.ext (by repeat (first | exact Qt.refl _ | assumption | refine Qt.drewN ?_ _ | refine Qt.drew ?_))) (by rw [HE.out]; rfl)
  · have hlen' : ((a.length : Int) != (b.length : Int)) = true := by simp; omega
    have HL := Lib.hid (show decide (a = b) = false from decide_eq_false (fun e => hlen (by rw [e])))
    clear hlen
    go_enter Try.func23, Try.ntmps23
    go_wp2
    go_ret
    exact RetE.fin (Ext.refl _) (by rw [HL.out]; rfl)

end Go.Proofs.Ytppncdbhebgcaaa
namespace Go.Proofs.Ytppncdbhebgcaaa
open Go.RowKit

end Go.Proofs.Ytppncdbhebgcaaa
namespace Go.Proofs.Ytppncdbhebgcaaa
open Go.RowKit

def pairVs (l : List (Int × Int)) : List Value := (List.range (l.length * 2)).map (fun j => if j % 2 = 0 then Value.int .i64 (l.getD (j / 2) (0, 0)).1 else Value.int .i64 (l.getD (j / 2) (0, 0)).2)
theorem pairVs_len (l : List (Int × Int)) : (pairVs l).length = l.length * 2 := by unfold pairVs; simp
theorem pairVs_fst {l : List (Int × Int)} {i : Nat} (h : i < l.length) : (pairVs l)[i * 2]? = some (.int .i64 l[i].1) := by
  unfold pairVs
  rw [List.getElem?_map, List.getElem?_range (by omega)]
  have e : i * 2 / 2 = i := by omega
  simp [e, List.getD_eq_getElem?_getD, h]
theorem pairVs_snd {l : List (Int × Int)} {i : Nat} (h : i < l.length) : (pairVs l)[i * 2 + 1]? = some (.int .i64 l[i].2) := by
  unfold pairVs
  rw [List.getElem?_map, List.getElem?_range (by omega)]
  have e : (i * 2 + 1) / 2 = i := by omega
  have e2 : (i * 2 + 1) % 2 = 1 := by omega
  simp [e, e2, List.getD_eq_getElem?_getD, h]
theorem pairs_news {w : World} {b o : Nat} {l : List (Int × Int)} (h : PairsAt w (some ⟨b, o, none⟩) l) : ∀ j u, (pairVs l)[j]? = some u → w.cell? ((⟨b, o, none⟩ : Addr).add j) = some u := by
  intro j u hj
  have hjl : j < l.length * 2 := by have := (List.getElem?_eq_some_iff.1 hj).1; rwa [pairVs_len] at this
  have hadd : (⟨b, o, none⟩ : Addr).add j = ⟨b, o + j, none⟩ := by
    by_cases h0 : j = 0
    · subst h0; rfl
    · simp [Addr.add, h0]
  rw [hadd]
  obtain ⟨i, hi⟩ : ∃ i, j = i * 2 ∨ j = i * 2 + 1 := ⟨j / 2, by omega⟩
  rcases hi with rfl | rfl
  · obtain ⟨b', o', he, h1, h2⟩ := h i (by omega)
    cases he
    rw [pairVs_fst (by omega)] at hj
    cases hj
    exact h1
  · obtain ⟨b', o', he, h1, h2⟩ := h i (by omega)
    cases he
    rw [pairVs_snd (by omega)] at hj
    cases hj
    exact h2
theorem row_pairs {w : World} {B g n c : Nat} {e : TypeId} {l : List (Int × Int)} (h : w.ownsRow B e 2 (.slice (some ⟨g, 0, none⟩) n c) n (pairVs l)) : PairsAt w (some ⟨g, 0, none⟩) l := by
  have hn := h.1
  rw [pairVs_len] at hn
  rcases h.2 with ⟨hv, -⟩ | ⟨g', cap, cur, hv, -, hg, hc, -, hs, hx⟩
  · cases hv
  · cases hv
    have key : ∀ j, j < l.length * 2 → w.cell? ⟨g, j, none⟩ = (pairVs l)[j]? := by
      intro j hj
      rw [cell_of_heap hg, ← hx, List.getElem?_take, if_pos (by omega)]
      simp
    intro i hi
    refine ⟨g, 0, rfl, ?_, ?_⟩
    · rw [Nat.zero_add, key _ (by omega), pairVs_fst hi]
    · rw [Nat.zero_add, key _ (by omega), pairVs_snd hi]

/-- something appended to an empty row without room: a new block -/
theorem wp_new_row {P : Program} {w : World} {o : Oper} {a : Act} {K : Act → World → Prop} {Q : Exit → Act → World → Prop} (s x : Operand) (t : TypeId)
    (ho : o.op = .call { callee := .builtin .append, args := #[s, x], argTypes := #[t, t] })
    (e : TypeId) (i : TypeInfo) (z : Value) (size bytes : Nat) (ht : P.underlying t = some (.slice e)) (hi : P.info? e = some i) (hz : i.zero = some z)
    (hsize : i.size = size) (hby : i.bytes = bytes) (hzs : z.cells.size = size)
    (H : Addr) (hs : a.eval s = .slice (some H) 0 0)
    (ad : Addr) (m c : Nat) (news : List Value) (hx : a.eval x = .slice (some ad) m c) (hl : news.length = m * size) (hnews : ∀ j u, news[j]? = some u → w.cell? (ad.add j) = some u)
    (hm : 0 < m) (hle : m * bytes ≤ 140737488355328) (hmx : m ≤ maxLen)
    (h : ∀ cap w', Ext w w' → w'.ownsRow w.heap.size e size (.slice (some ⟨w.heap.size, 0, none⟩) m cap) m news → w.heap.size < w'.heap.size → K (a.put o.dst (.slice (some ⟨w.heap.size, 0, none⟩) m cap)) w') :
    Oper.wp P o a w K Q := by
  have hmx' : m ≤ 9223372036854775807 := hmx
  have hfit : Builtin.nextslicecap (0 + m) 0 * i.bytes ≤ 281474976710656 := growslice_fits (by omega) (by rw [hby, Nat.zero_add]; exact hle)
  have hrun := run_append_grow (P := P) w t o.type e i z ht hi hz H 0 0 [] (by simp) (by simp) ad m c news (by rw [hsize]; exact hl) hnews (by omega) (by omega) hfit
  have hcap := grownCap_ge w (0 + m) 0 e
  have hmax := grownCap_le_maxLen w (0 + m) 0 e (by omega)
  unfold Oper.wp
  simp only [Nat.zero_add] at hrun hcap hmax
  simp [execOp, ho, resolve, invoke, builtin, hs, hx, hrun, Result.andThen]
  refine h _ _ (Ext.alloc (Ext.drew (Ext.refl w)) _) ?_ (by rw [size_alloc]; exact Nat.lt_succ_self _)
  refine ⟨hl, Or.inr ⟨_, _, _, rfl, Nat.le_refl _, heap_new w.drew _, hcap, hmax, ?_, ?_⟩⟩
  · simp only [Array.size_append, List.size_toArray, size_zeroCells, hzs, hl]
    rw [← Nat.add_mul]
    congr 1
    omega
  · simp [← hl]

theorem run_append_owned_zero {P : Program} {w : World} (base : Nat) (t ty e : TypeId) (i : TypeInfo) (size : Nat) (ht : P.underlying t = some (.slice e)) (hi : P.info? e = some i)
    (v : Value) (n c : Nat) (q : Option Addr) (xs : List Value) (hown : w.ownsRow base e size v n xs) :
    (Builtin.append_ #[t, t] ty #[v, .slice q 0 c]).run P w = .ok v w := by
  cases q with
  | none =>
    rcases hown.2 with ⟨rfl, rfl⟩ | ⟨g, cap, cur, rfl, _, _, hnc, _⟩
    · simp [Builtin.append_, run_underlying ht, sizeOf, typeInfo, hi, Builtin.lenOf, Builtin.firstCells]
    · simp [Builtin.append_, run_underlying ht, sizeOf, typeInfo, hi, Builtin.lenOf, Builtin.firstCells, hnc, storeCells]
  | some ad =>
    rcases hown.2 with ⟨rfl, rfl⟩ | ⟨g, cap, cur, rfl, _, _, hnc, _⟩
    · simp [Builtin.append_, run_underlying ht, sizeOf, typeInfo, hi, Builtin.lenOf, Builtin.firstCells, loadCells, loadCellsFrom]
    · simp [Builtin.append_, run_underlying ht, sizeOf, typeInfo, hi, Builtin.lenOf, Builtin.firstCells, hnc, storeCells, loadCells, loadCellsFrom]

/-- a list of pairs appended to a new empty row, and where the new one lies -/
def RwB (B : Nat) (e : TypeId) (l : List (Int × Int)) (v : Value) (_ _ : Nat) (w : World) : Prop :=
  ∃ g cn, v = .slice (some ⟨g, 0, none⟩) l.length cn ∧ w.ownsRow B e 2 v l.length (pairVs l)
theorem RwB.mono {B : Nat} {e : TypeId} {l : List (Int × Int)} : ∀ v s t w w', Ext w w' → RwB B e l v s t w → RwB B e l v s t w' := fun _ _ _ _ _ hE ⟨g, cn, h1, h2⟩ => ⟨g, cn, h1, ownsRow_ext h2 hE⟩
def EmB (B : Nat) (e : TypeId) (v : Value) (s _ : Nat) (w : World) : Prop := v = .slice (some ⟨s, 0, none⟩) 0 0 ∧ w.ownsRow B e 2 v 0 []
theorem EmB.mono {B : Nat} {e : TypeId} : ∀ v s t w w', Ext w w' → EmB B e v s t w → EmB B e v s t w' := fun _ _ _ _ _ hE ⟨h1, h2⟩ => ⟨h1, ownsRow_ext h2 hE⟩
theorem ownsRow_off {w : World} {B size n b o : Nat} {e : TypeId} {v u : Value} {xs : List Value} (h : w.ownsRow B e size v n xs) (hb : b < B) : (w.setCell ⟨b, o, none⟩ u).ownsRow B e size v n xs := by
  refine ⟨h.1, ?_⟩
  rcases h.2 with h0 | ⟨g, cap, cur, hv, hB, hg, hr⟩
  · exact Or.inl h0
  · exact Or.inr ⟨g, cap, cur, hv, hB, heap_set_ne (by omega) hg, hr⟩
theorem own_ne {w : World} {B B' size size' n n' g g' c c' : Nat} {e e' : TypeId} {xs xs' : List Value} (h : w.ownsRow B e size (.slice (some ⟨g, 0, none⟩) n c) n xs) (h' : w.ownsRow B' e' size' (.slice (some ⟨g', 0, none⟩) n' c') n' xs') (he : e ≠ e') : g ≠ g' := by
  rintro rfl
  rcases h.2 with ⟨hv, -⟩ | ⟨g1, cap, cur, hv, -, hg, -⟩
  · cases hv
  · rcases h'.2 with ⟨hv', -⟩ | ⟨g2, cap', cur', hv', -, hg', -⟩
    · cases hv'
    · cases hv
      cases hv'
      rw [hg] at hg'
      cases hg'
      exact he rfl

theorem wp_pairs_of {w : World} {o : Oper} {a : Act} {K : Act → World → Prop} {Q : Exit → Act → World → Prop} (s x : Operand) (t e : TypeId)
    (ho : o.op = .call { callee := .builtin .append, args := #[s, x], argTypes := #[t, t] }) (ht : Try.prog.underlying t = some (.slice e))
    (hinf : (Try.prog.info? e).map (fun i => (i.zero, i.size, i.bytes)) = some (some (.agg #[.int .i64 0, .int .i64 0]), 2, 16))
    (B H : Nat) (hB : B ≤ w.heap.size) (hs : a.eval s = .slice (some ⟨H, 0, none⟩) 0 0) (hown : w.ownsRow B e 2 (.slice (some ⟨H, 0, none⟩) 0 0) 0 [])
    (p : Option Addr) (l : List (Int × Int)) (c : Nat) (hx : a.eval x = .slice p l.length c) (hl : PairsAt w p l) (hle : l.length * 16 ≤ 140737488355328)
    (h : ∀ v w', RwB B e l v w.heap.size w'.heap.size w' → Ext w w' → K (a.put o.dst v) w') :
    Oper.wp Try.prog o a w K Q := by
  obtain ⟨i0, hi, hz0, hz1, hz2⟩ := info_parts hinf
  cases l with
  | nil =>
    have hrun := run_append_owned_zero (P := Try.prog) (w := w) B t o.type e i0 2 ht hi _ 0 c p [] hown
    unfold Oper.wp
    simp only [List.length_nil] at hx
    simp [execOp, ho, resolve, invoke, builtin, hs, hx, hrun, Result.andThen]
    exact h _ w ⟨H, 0, rfl, hown⟩ (Ext.refl w)
  | cons y r =>
    obtain ⟨l, hll⟩ : ∃ l, l = y :: r := ⟨_, rfl⟩
    rw [← hll] at h hx hl hle
    have hpos : 0 < l.length := by rw [hll]; simp
    clear hll
    obtain ⟨b0, o0, rfl, -, -⟩ := hl 0 hpos
    refine wp_new_row s x t ho e i0 _ 2 16 ht hi hz0 hz1 hz2 rfl _ hs ⟨b0, o0, none⟩ l.length c (pairVs l) hx (pairVs_len l) (pairs_news hl) hpos hle (by simp only [maxLen]; omega) ?_
    intro cap w' hE ho' hlt
    exact h _ w' ⟨_, cap, rfl, ownsRow_base ho' hB⟩ hE

theorem heap_triple {w : World} {b : Nat} {t : TypeId} {x0 x1 x2 y0 y1 y2 : Value} (h : w.heap[b]? = some (.cells #[x0, x1, x2] t)) :
    (((w.setCell ⟨b, 0, none⟩ y0).setCell ⟨b, 1, none⟩ y1).setCell ⟨b, 2, none⟩ y2).heap[b]? = some (.cells #[y0, y1, y2] t) := heap_set (heap_set (heap_set h rfl) rfl) rfl
theorem heap_new3 (w : World) (o u v : Obj) : (((w.alloc o).alloc u).alloc v).heap[w.heap.size + 2]? = some v := by
  have := heap_new ((w.alloc o).alloc u) v
  rwa [size_alloc, size_alloc] at this
end Go.Proofs.Ytppncdbhebgcaaa
namespace Go.Proofs.Ytppncdbhebgcaaa
open Go.RowKit

theorem PairsAt.cells {w : World} {b : Nat} {t : TypeId} {f : Nat × Nat} {l : List (Int × Int)} (h : w.heap[b]? = some (.cells (pairVs l).toArray t f)) : PairsAt w (some ⟨b, 0, none⟩) l := by
  intro i hi
  refine ⟨b, 0, rfl, ?_, ?_⟩
  · rw [Nat.zero_add, cell_of_heap h, List.getElem?_toArray, pairVs_fst hi]
  · rw [Nat.zero_add, cell_of_heap h, List.getElem?_toArray, pairVs_snd hi]
theorem PairsAt.fr {w w' : World} {E : Nat → Prop} {b o : Nat} {l : List (Int × Int)} (h : PairsAt w (some ⟨b, o, none⟩) l) (hF : Fr E w w') (hb : ¬E b) : PairsAt w' (some ⟨b, o, none⟩) l := by
  intro i hi
  obtain ⟨b', o', he, h1, h2⟩ := h i hi
  cases he
  exact ⟨b, o, rfl, hF.cell h1 hb, hF.cell h2 hb⟩
theorem heap_ext3 {w w' : World} {b : Nat} {o : Obj} (h : w.heap[b]? = some o) (hE : Ext w w') : w'.heap[b]? = some o := (hE.block b (Array.getElem?_eq_some_iff.1 h).1).trans h
end Go.Proofs.Ytppncdbhebgcaaa
