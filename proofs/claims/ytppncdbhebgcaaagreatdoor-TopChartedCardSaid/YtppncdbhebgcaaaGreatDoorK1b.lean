
/- TopCharted: what append touches if there is no room; the rows of two boxes; the walk of swapped. -/
import Derived.Test.YtppncdbhebgcaaaGreatDoorK1a
import Derived.Test.YtppncdbhebgcaaaGreatDoorH1a
import Derived.Test.YtppncdbhebgcaaaGreatDoorCF
namespace Go.Proofs.YtppncdbhebgcaaaGreatDoor
open Go.RowKit

/-- the block that append writes to, if there is room -/
def roomR (v : Value) (N : Nat) : Option Nat :=
  match v with
  | .slice (some a) _ c => if N ≤ c then some a.block else none
  | _ => none
theorem roomR_own {v : Value} {N y : Nat} (h : roomR v N = some y) : v.ownBlock = some y := by
  unfold roomR at h
  split at h
  · split at h
    · exact h
    · cases h
  · cases h
theorem wp_append_two {w : World} {o : Oper} {a : Act} {K : Act → World → Prop} {Q : Exit → Act → World → Prop} (s x : Operand) (t : TypeId)
    (ho : o.op = .call { callee := .builtin .append, args := #[s, x], argTypes := #[t, t] })
    (base : Nat) (e : TypeId) (i : TypeInfo) (z : Value) (size bytes : Nat) (ht : Tryz.prog.underlying t = some (.slice e)) (hi : Tryz.prog.info? e = some i) (hz : i.zero = some z)
    (hsize : i.size = size) (hby : i.bytes = bytes) (hzs : z.cells.size = size) (hsz : 0 < size)
    (v : Value) (n : Nat) (xs : List Value) (hs : a.eval s = v) (hown : w.ownsRow base e size v n xs)
    (ad : Addr) (m c : Nat) (news : List Value) (hx : a.eval x = .slice (some ad) m c) (hl : news.length = m * size) (hnews : ∀ j u, news[j]? = some u → w.cell? (ad.add j) = some u) (h1 : ∀ u ∈ news, u.oneCell' = true)
    (hm : 0 < m) (h63 : n + m ≤ maxLen) (hbytes : (n + m) * bytes ≤ 140737488355328) (hbase : base ≤ w.heap.size) (H : Nat) (hH : w.heap.size = H)
    (h : ∀ g cap w', w'.ownsRow base e size (.slice (some ⟨g, 0, none⟩) (n + m) cap) (n + m) (xs ++ news) → w.grownBy w' (roomR v (n + m)) → (v.ownBlock = some g ∨ g = H) → K (a.put o.dst (.slice (some ⟨g, 0, none⟩) (n + m) cap)) w') : o.wp Tryz.prog a w K Q := by
  obtain ⟨g, cap, w', hr, h2, h3, h4, h5⟩ := run_append_lies (P := Tryz.prog) w t o.type base e i z size bytes ht hi hz hsize hby hzs hsz v n xs hown ad m c news hl hnews h1 hm h63 hbytes hbase H hH
  have h3' : w.grownBy w' (roomR v (n + m)) := by
    rcases hown.2 with ⟨hv, h0⟩ | ⟨g0, cap0, cur, hv, hb, hg, hc, hc2, hcs, hcx⟩
    · subst hv
      exact h3
    · subst hv
      by_cases hroom : n + m ≤ cap0
      · have : roomR (.slice (some ⟨g0, 0, none⟩) n cap0) (n + m) = some g0 := if_pos hroom
        rw [this]
        exact h3
      · subst hsize
        subst hby
        have holds : ∀ j u, xs[j]? = some u → w.cell? ((⟨g0, 0, none⟩ : Addr).add j) = some u := hown.cells (g := g0) rfl
        have hml : maxLen = 9223372036854775807 := rfl
        have hr2 := run_append_grow (P := Tryz.prog) w t o.type e i z ht hi hz ⟨g0, 0, none⟩ n cap0 xs hown.1 holds ad m c news hl hnews (by omega) (by omega) (growslice_fits (by omega) hbytes)
        rw [hr] at hr2
        injection hr2 with _ hw
        subst hw
        exact GrB.ext (((Ext.refl w).drew).alloc _)
  unfold Oper.wp execOp
  simp only [ho, resolve, invoke, builtin, Sem.run_bind, Sem.run_pure, Result.andThen_ok, List.map_toArray, List.map_cons, List.map_nil, hs, hx, hr]
  exact h g cap w' h2 h3' h4

theorem own_keep {w w' : World} {B size n : Nat} {e : TypeId} {v : Value} {xs : List Value} (h : w.ownsRow B e size v n xs) (hk : ∀ y, v.ownBlock = some y → w'.heap[y]? = w.heap[y]?) : w'.ownsRow B e size v n xs := by
  refine ⟨h.1, ?_⟩
  rcases h.2 with h0 | ⟨g, cap, cur, hv, hb, hg, hr⟩
  · exact Or.inl h0
  · exact Or.inr ⟨g, cap, cur, hv, hb, (hk g (by rw [hv]; rfl)).trans hg, hr⟩
/-- a row grown by one -/
def ApF (old : Value) (B b1 size k : Nat) (e : TypeId) (xs : List Value) (v : Value) (_ _ : Nat) (w : World) : Prop := ∃ h cap, v = .slice (some ⟨h, 0, none⟩) (k + 1) cap ∧ w.ownsRow b1 e size v (k + 1) xs ∧ (old.ownBlock = some h ∨ B ≤ h)
/-- a row of rows of one number, grown by one -/
def ApG (old : Value) (B b1 k : Nat) (es : List Value) (x : Int) (v : Value) (_ _ : Nat) (w : World) : Prop := ∃ g h cap, v = .slice (some ⟨h, 0, none⟩) (k + 1) cap ∧ B ≤ g ∧ w.heap[g]? = some (.cells #[.int .i64 x] 3) ∧
  w.ownsRow b1 23 1 v (k + 1) (es ++ [.slice (some ⟨g, 0, none⟩) 1 1]) ∧ (old.ownBlock = some h ∨ B ≤ h)
/-- a slice of a slice of one number -/
def OneS (B : Nat) (x : Int) (v : Value) (_ _ : Nat) (w : World) : Prop := ∃ g h, v = .slice (some ⟨h, 0, none⟩) 1 1 ∧ B ≤ g ∧ B ≤ h ∧ w.heap[g]? = some (.cells #[.int .i64 x] 3) ∧ w.heap[h]? = some (.cells #[.slice (some ⟨g, 0, none⟩) 1 1] 23)
section
variable {r1 r2 : Option Nat} {B b1 k size : Nat} {x : Int} {v old : Value} {s t : Nat} {w w' : World} {e : TypeId} (hr : ∀ y, r1 = some y ∨ r2 = some y → y < B)
include hr
theorem OneS.gr2 (h : OneS B x v s t w) (hG : Gr2 r1 r2 w w') : OneS B x v s t w' := by
  obtain ⟨g, h', h1, h2, h3, h4, h5⟩ := h
  exact ⟨g, h', h1, h2, h3, hG.keepT hr h2 h4, hG.keepT hr h3 h5⟩
theorem ApF.gr {r : Option Nat} (hr' : ∀ y, r = some y → y < B) (hn : ∀ y, old.ownBlock = some y → r ≠ some y) (xs : List Value) (h : ApF old B b1 size k e xs v s t w) (hG : GrB r w w') : ApF old B b1 size k e xs v s t w' := by
  have _ := hr
  obtain ⟨h', cap, h1, h2, h3⟩ := h
  refine ⟨h', cap, h1, own_keep h2 fun y hy => ?_, h3⟩
  have hlt := (h2.lt y hy).2
  refine hG.block y hlt fun e => ?_
  rw [h1] at hy
  obtain rfl : h' = y := Option.some.inj hy
  rcases h3 with h3 | h3
  · exact hn _ h3 e.symm
  · have := hr' _ e.symm; omega
theorem ApG.gr {r : Option Nat} (hr' : ∀ y, r = some y → y < B) (hn : ∀ y, old.ownBlock = some y → r ≠ some y) (es : List Value) (h : ApG old B b1 k es x v s t w) (hG : GrB r w w') : ApG old B b1 k es x v s t w' := by
  have _ := hr
  obtain ⟨g, h', cap, h1, hg, hm, h2, h3⟩ := h
  refine ⟨g, h', cap, h1, hg, hG.keep hm fun e => by have := hr' _ e.symm; omega, own_keep h2 fun y hy => ?_, h3⟩
  have hlt := (h2.lt y hy).2
  refine hG.block y hlt fun e => ?_
  rw [h1] at hy
  obtain rfl : h' = y := Option.some.inj hy
  rcases h3 with h3 | h3
  · exact hn _ h3 e.symm
  · have := hr' _ e.symm; omega
end
/-- the rows of a box: a copy of each title, and what each earns -/
structure BxR (w : World) (B : Nat) (vS vE : Value) (es : List Value) (L : List Int) : Prop where
  S : w.ownsRow B 3 1 vS L.length (intVs (List.replicate L.length 1))
  E : w.ownsRow B 23 1 vE L.length es
  elt : ∀ i (h : i < L.length), ∃ g, es[i]? = some (.slice (some ⟨g, 0, none⟩) 1 1) ∧ B ≤ g ∧ w.heap[g]? = some (.cells #[.int .i64 L[i]] 3)
  nul : L.length = 0 → vS = .slice none 0 0
theorem BxR.nil (w : World) (B : Nat) : BxR w B (.slice none 0 0) (.slice none 0 0) [] [] := ⟨World.ownsRow_nil _ _ _ _, World.ownsRow_nil _ _ _ _, fun i h => absurd h (by simp), fun _ => rfl⟩
theorem BxR.keep {w w' : World} {B : Nat} {vS vE : Value} {es : List Value} {L : List Int} (h : BxR w B vS vE es L) (hS : ∀ y, vS.ownBlock = some y → w'.heap[y]? = w.heap[y]?) (hE : ∀ y, vE.ownBlock = some y → w'.heap[y]? = w.heap[y]?)
    (hg : ∀ y (x : Int), B ≤ y → w.heap[y]? = some (.cells #[.int .i64 x] 3) → w'.heap[y]? = w.heap[y]?) : BxR w' B vS vE es L :=
  ⟨own_keep h.S hS, own_keep h.E hE, fun i hi => by
    obtain ⟨g, e1, e2, e3⟩ := h.elt i hi
    exact ⟨g, e1, e2, (hg g _ e2 e3).trans e3⟩, h.nul⟩
theorem BxR.ext {w w' : World} {B : Nat} {vS vE : Value} {es : List Value} {L : List Int} (h : BxR w B vS vE es L) (hE : Ext w w') : BxR w' B vS vE es L :=
  h.keep (fun y hy => Below.block hE y (h.S.lt y hy).2) (fun y hy => Below.block hE y (h.E.lt y hy).2) (fun y _ _ hm => Below.block hE y (Array.getElem?_eq_some_iff.1 hm).1)
theorem BxR.off {w : World} {B b o : Nat} {v vS vE : Value} {es : List Value} {L : List Int} (h : BxR w B vS vE es L) (hb : b < B) : BxR (w.setCell ⟨b, o, none⟩ v) B vS vE es L :=
  h.keep (fun y hy => heap_off (by have := (h.S.lt y hy).1; omega)) (fun y hy => heap_off (by have := (h.E.lt y hy).1; omega)) (fun _ _ hy _ => heap_off (by omega))
/-- a block of one number is not the room of a longer row -/
theorem one_room {w : World} {B n g : Nat} {v : Value} {xs : List Value} {x : Int} (h : w.ownsRow B 3 1 v n xs) (hm : w.heap[g]? = some (.cells #[.int .i64 x] 3)) (hn : n = 0 → v = .slice none 0 0) : some g ≠ roomR v (n + 1) := by
  intro hg
  have hz : n = 0 → False := fun h0 => by rw [hn h0] at hg; cases hg
  rcases h.2 with ⟨hv, h0⟩ | ⟨g1, cap, cur, hv, -, hm1, -, -, hcs, -⟩
  · exact hz h0
  · subst hv
    have hz' : 1 ≤ n := by have := mt (fun h0 : n = 0 => hz h0) (fun h => h); omega
    unfold roomR at hg
    simp only at hg
    split at hg
    · rename_i hc
      injection hg with hg
      subst hg
      rw [hm] at hm1
      injection hm1 with h1
      injection h1 with h2 _
      subst h2
      have : (#[Value.int .i64 x] : Array Value).size = 1 := rfl
      omega
    · cases hg
/-- a box's rows, grown -/
theorem BxR.step {wr w2 : World} {B g : Nat} {vS vE vS' vE' : Value} {es : List Value} {L : List Int} {x : Int} (h : BxR wr B vS vE es L) (hG : Gr2 (roomR vS (L.length + 1)) vE.ownBlock wr w2)
    (hS : w2.ownsRow B 3 1 vS' (L.length + 1) (intVs (List.replicate L.length 1) ++ [.int .i64 1])) (hE : w2.ownsRow B 23 1 vE' (L.length + 1) (es ++ [.slice (some ⟨g, 0, none⟩) 1 1])) (hB : B ≤ g) (hg : w2.heap[g]? = some (.cells #[.int .i64 x] 3)) :
    BxR w2 B vS' vE' (es ++ [.slice (some ⟨g, 0, none⟩) 1 1]) (L ++ [x]) := by
  have hl : es.length = L.length := by have := h.E.1; omega
  refine ⟨?_, by rw [List.length_append]; exact hE, fun i hi => ?_, fun h0 => by simp at h0⟩
  · rw [List.length_append, List.length_singleton, List.replicate_succ', intVs_snoc]
    exact hS
  · by_cases hil : i < L.length
    · obtain ⟨q, e1, e2, e3⟩ := h.elt i hil
      have el : (L ++ [x])[i] = L[i] := List.getElem_append_left hil
      rw [el]
      exact ⟨q, by rw [List.getElem?_append_left (by omega)]; exact e1, e2, hG.keep e3 (one_room h.S e3 h.nul) (own_not h.E e3 (by decide))⟩
    · have hil' : i = L.length := by simp at hi; omega
      subst hil'
      have el : (L ++ [x])[L.length] = x := by simp
      rw [el]
      exact ⟨g, by rw [List.getElem?_append_right (by omega), hl]; simp, hB, hg⟩
/-- the other box's rows -/
theorem BxR.other {wr w2 : World} {B : Nat} {vS vE uS uE : Value} {es fs : List Value} {L M : List Int} (h : BxR wr B vS vE es L) (h' : BxR wr B uS uE fs M) (hG : Gr2 (roomR uS (M.length + 1)) uE.ownBlock wr w2)
    (hSS : ∀ y, vS.ownBlock = some y → ¬uS.ownBlock = some y) (hEE : ∀ y, vE.ownBlock = some y → ¬uE.ownBlock = some y) : BxR w2 B vS vE es L :=
  h.keep (fun y hy => hG.block y (h.S.lt y hy).2 (fun e => hSS y hy (roomR_own e.symm)) (fun e => own_ne2 h.S h'.E (by decide) y hy e.symm))
    (fun y hy => hG.block y (h.E.lt y hy).2 (fun e => own_ne2 h.E h'.S (by decide) y hy (roomR_own e.symm)) (fun e => hEE y hy e.symm))
    (fun y _ _ hm => hG.block y (Array.getElem?_eq_some_iff.1 hm).1 (one_room h'.S hm h'.nul) (own_not h'.E hm (by decide)))
theorem BxR.ints {w : World} {B : Nat} {vS vE : Value} {es : List Value} {L : List Int} (h : BxR w B vS vE es L) : ∃ p c q d, vS = .slice p L.length c ∧ vE = .slice q L.length d ∧ IntsAt w p (List.replicate L.length 1) ∧ ListsAt w q (L.map fun x => [x]) := by
  obtain ⟨p, c, hS, hI⟩ := ownsRow_ints (l := List.replicate L.length 1) (by simpa using h.S)
  rw [List.length_replicate] at hS
  rcases h.E.2 with ⟨hv, h0⟩ | ⟨g, cap, cur, hv, hB, hg, hc, -, hs, hx⟩
  · obtain rfl : L = [] := List.length_eq_zero_iff.1 h0
    exact ⟨p, c, none, 0, hS, hv, hI, fun i hi => absurd hi (by simp)⟩
  · refine ⟨p, c, _, cap, hS, hv, hI, fun i hi => ?_⟩
    have hi' : i < L.length := by simpa using hi
    obtain ⟨q, e1, e2, e3⟩ := h.elt i hi'
    have hcell : w.cell? ⟨g, i, none⟩ = es[i]? := by
      rw [cell_of_heap hg, ← hx, List.getElem?_take, if_pos (by omega)]
      simp
    have el : (L.map fun x => [x])[i] = [L[i]] := by simp
    rw [el]
    exact ⟨g, 0, _, rfl, by rw [Nat.zero_add, hcell, e1]; rfl, ⟨_, 1, rfl, IntsAt.cells [L[i]] e3⟩⟩

def exS7 : Sw7.Swap := ⟨[[0]], [0, 1, 1], [[3], [7], [5]], [], 1⟩
theorem exS7_valid : Sw7.Valid exS7 := by
  refine ⟨by decide, by decide, by decide, by decide, by decide, fun i h => ?_, fun i h => ?_, fun i h => ?_, fun i h k hk => ?_, fun i h => absurd h (by simp [exS7])⟩
  · have hi : i < 1 := h
    obtain rfl : i = 0 := by omega
    show [(0 : Int)].length ≤ 3 ∧ Rises [0] 0 _
    refine ⟨by decide, fun j hj => ?_, fun j hj => ?_⟩
    · have hj' : j < 1 := hj
      obtain rfl : j = 0 := by omega
      show (0 : Int) ≤ 0 ∧ (0 : Int) ≤ ((3 : Nat) : Int) - 1
      omega
    · have hj' : j + 1 < 1 := hj
      omega
  · have hi : i < 3 := h
    rcases (by omega : i = 0 ∨ i = 1 ∨ i = 2) with rfl | rfl | rfl <;> first | exact (by decide : (0 : Int) ≤ 0 ∧ (0 : Int) ≤ 9) | exact (by decide : (0 : Int) ≤ 1 ∧ (1 : Int) ≤ 9)
  · have hi : i < 3 := h
    rcases (by omega : i = 0 ∨ i = 1 ∨ i = 2) with rfl | rfl | rfl <;> rfl
  · have hi : i < 3 := h
    rcases (by omega : i = 0 ∨ i = 1 ∨ i = 2) with rfl | rfl | rfl
    · have hk' : k < 1 := hk
      obtain rfl : k = 0 := by omega
      exact (by decide : (0 : Int) ≤ 3 ∧ (3 : Int) ≤ 999)
    · have hk' : k < 1 := hk
      obtain rfl : k = 0 := by omega
      exact (by decide : (0 : Int) ≤ 7 ∧ (7 : Int) ≤ 999)
    · have hk' : k < 1 := hk
      obtain rfl : k = 0 := by omega
      exact (by decide : (0 : Int) ≤ 5 ∧ (5 : Int) ≤ 999)
theorem ex7_sum : ∀ m, m < 8 → Sw7.popc m = 1 → 0 + Sw7.earnTo exS7.earn m 0 3 ≤ 7 := by decide
theorem ex7_best : Sw7.bestN (Sw7.openV exS7) = 7 := by
  have hO := Sw7.openV_ok exS7_valid
  have hm : (fun j => if j = 0 then 2 else 0 : Nat → Nat) ∈ Sw7.allP (Sw7.openV exS7) := by
    refine (Sw7.mem_allP hO _).2 ⟨fun j hj => ?_, fun j hj => ?_, ⟨fun k hk => ?_, fun t ht => ?_⟩⟩
    · have hj' : j < 1 := hj
      obtain rfl : j = 0 := by omega
      exact ⟨by show 2 < 2 ^ 3; decide, by show Sw7.popc 2 = 1; decide⟩
    · have hj' : 1 ≤ j := hj
      exact if_neg (by omega)
    · have hk' : k < 1 := hk
      obtain rfl : k = 0 := by omega
      exact ⟨by show ((Sw7.popc (Sw7.dif 2 (Sw7.maskOf [0])) : Nat) : Int) ≤ 1; decide, by show 0 - (0 &&& 2) = 0; decide⟩
    · rcases (by omega : t = 0 ∨ t = 1 ∨ t = 2 ∨ t = 3 ∨ t = 4 ∨ t = 5) with rfl | rfl | rfl | rfl | rfl | rfl <;> decide
  unfold Sw7.bestN
  rcases Sw7.best_spec hO (Sw7.allP (Sw7.openV exS7)) with ⟨h, -⟩ | ⟨q, hq, h1, h2⟩
  · rw [h] at hm; exact absurd hm (by simp)
  · have h3 : (7 : Int) ≤ Sw7.sumTo (Sw7.openV exS7) q 1 := h2 _ hm
    have hP := ((Sw7.mem_allP hO q).1 hq).box 0 (by show 0 < 1; omega)
    have h4 : Sw7.sumTo (Sw7.openV exS7) q 1 ≤ 7 := ex7_sum (q 0) hP.1 hP.2
    have h1' : (Sw7.bestOf (Sw7.openV exS7) (Sw7.allP (Sw7.openV exS7))).1 = Sw7.sumTo (Sw7.openV exS7) q 1 := h1
    omega
theorem exS7_modest : Sw7.Modest exS7 := by
  refine ⟨by decide, fun i h => ?_, by decide, by decide, fun i h => ?_, by decide⟩
  · have hi : i < 1 := h
    obtain rfl : i = 0 := by omega
    exact (by decide : 1 ≤ 100000)
  · have hi : i < 3 := h
    rcases (by omega : i = 0 ∨ i = 1 ∨ i = 2) with rfl | rfl | rfl <;> exact (by decide : 1 ≤ 100000)
end Go.Proofs.YtppncdbhebgcaaaGreatDoor
