
/- Charts: how many orders there are: the walks of orders and Orders. -/
import Derived.Test.YtaoamnhchidjfaaDoorC7e
import Derived.Test.YtaoamnhchidjfaaDoorQ9b
import Derived.Maps.OwnSet
namespace Go.Proofs.YtaoamnhchidjfaaDoor
open Go.RowKit Go.Maps

/-- what is not gone of the first ones -/
def restS (S : Nat → Bool) (k : Nat) : List Nat := (List.range k).filter fun i => !S i
theorem restS_succ (S : Nat → Bool) (k : Nat) : restS S (k + 1) = restS S k ++ if S k = true then [] else [k] := by
  unfold restS
  rw [List.range_succ, List.filter_append]
  congr 1
  cases h : S k <;> simp [h]
def addS (S : Nat → Bool) (i : Nat) : Nat → Bool := fun x => decide (x = i) || S x
theorem restS_add (S : Nat → Bool) (N i : Nat) : restS (addS S i) N = (restS S N).erase i := by
  have hn : (restS S N).Nodup := List.nodup_iff_pairwise_ne.2 (List.Pairwise.filter _ (List.nodup_iff_pairwise_ne.1 List.nodup_range))
  rw [hn.erase_eq_filter]
  unfold restS addS
  rw [List.filter_filter]
  refine List.filter_congr fun x _ => ?_
  by_cases h : x = i <;> simp [h]
def brO (T : Nat → List Int) (f : Nat) (prev : Option (Nat × Int)) (rest : List Nat) (i : Nat) : List (List Nat) :=
  match bestV (nextP prev i) (T i) with
  | none => []
  | some v => (listO T f (some (i, v)) (rest.erase i)).map (i :: ·)
def sumO (T : Nat → List Int) (f : Nat) (prev : Option (Nat × Int)) (S : Nat → Bool) (N k : Nat) : Nat := ((restS S k).flatMap (brO T f prev (restS S N))).length
theorem sumO_succ (T : Nat → List Int) (f : Nat) (prev : Option (Nat × Int)) (S : Nat → Bool) (N k : Nat) : sumO T f prev S N (k + 1) = sumO T f prev S N k + if S k = true then 0 else (brO T f prev (restS S N) k).length := by
  unfold sumO
  rw [restS_succ, List.flatMap_append, List.length_append]
  by_cases h : S k = true
  · simp [h]
  · simp [h]
theorem sumO_all (T : Nat → List Int) (f : Nat) (prev : Option (Nat × Int)) (S : Nat → Bool) (N : Nat) : sumO T f prev S N N = (listO T (f + 1) prev (restS S N)).length := by
  rw [listO_succ]; rfl
theorem brO_none {T : Nat → List Int} {f : Nat} {prev : Option (Nat × Int)} {rest : List Nat} {i : Nat} (h : bestV (nextP prev i) (T i) = none) : (brO T f prev rest i).length = 0 := by unfold brO; rw [h]; rfl
theorem brO_some {T : Nat → List Int} {f : Nat} {prev : Option (Nat × Int)} {rest : List Nat} {i : Nat} {v : Int} (h : bestV (nextP prev i) (T i) = some v) : (brO T f prev rest i).length = (listO T f (some (i, v)) (rest.erase i)).length := by unfold brO; rw [h]; simp
theorem bestV_of {p : Int → Bool} {l : List Int} {k : Nat} (hk : k < l.length) (hp : p l[k] = true) (hn : ∀ m (h : m < l.length), k < m → p l[m] = false) : bestV p l = some l[k] := by
  unfold bestV
  have e : l = l.take k ++ l[k] :: l.drop (k + 1) := by rw [← List.drop_eq_getElem_cons hk, List.take_append_drop]
  have hd : ∀ x ∈ (l.drop (k + 1)).reverse, ¬p x = true := fun x hx => by
    obtain ⟨m, hm, rfl⟩ := List.getElem_of_mem (List.mem_reverse.1 hx)
    rw [List.getElem_drop, hn _ _ (by omega)]
    decide
  conv => lhs; rw [e]
  rw [List.reverse_append, List.find?_append, List.reverse_cons, List.find?_append, List.find?_eq_none.2 hd]
  simp [hp]
theorem bestV_none {p : Int → Bool} {l : List Int} (hn : ∀ m (h : m < l.length), p l[m] = false) : bestV p l = none := by
  unfold bestV
  refine List.find?_eq_none.2 fun x hx => ?_
  obtain ⟨m, hm, rfl⟩ := List.getElem_of_mem (List.mem_reverse.1 hx)
  rw [hn m hm]
  decide
def UO (N : Nat) : Nat → Nat
  | 0 => 0
  | f + 1 => N * (1 + UO N f)
theorem listO_le {T : Nat → List Int} {N : Nat} : ∀ (f : Nat) (prev : Option (Nat × Int)) (rest : List Nat), rest.length ≤ N → (listO T f prev rest).length ≤ 1 + UO N f := by
  intro f
  induction f with
  | zero => intro _ _ _; exact Nat.le_refl _
  | succ f ih =>
    intro prev rest hr
    have key : ∀ l : List Nat, (l.flatMap (brO T f prev rest)).length ≤ l.length * (1 + UO N f) := by
      intro l
      induction l with
      | nil => simp
      | cons a l ih2 =>
        have hb : (brO T f prev rest a).length ≤ 1 + UO N f := by
          unfold brO
          cases bestV (nextP prev a) (T a) with
          | none => simp
          | some v =>
            rw [List.length_map]
            exact ih _ _ (Nat.le_trans List.length_erase_le hr)
        rw [List.flatMap_cons, List.length_append, List.length_cons, Nat.succ_mul]
        omega
    have h := key rest
    have h2 := Nat.mul_le_mul_right (1 + UO N f) hr
    have e : (listO T (f + 1) prev rest).length = (rest.flatMap (brO T f prev rest)).length := rfl
    have e2 : UO N (f + 1) = N * (1 + UO N f) := rfl
    rw [e, e2]
    omega
theorem restS_len (S : Nat → Bool) (N : Nat) : (restS S N).length ≤ N := by
  unfold restS
  have := List.length_filter_le (fun i => !S i) (List.range N)
  rwa [List.length_range] at this
theorem brO_le {T : Nat → List Int} {N f : Nat} {prev : Option (Nat × Int)} {rest : List Nat} (hr : rest.length ≤ N) (i : Nat) : (brO T f prev rest i).length ≤ 1 + UO N f := by
  unfold brO
  cases bestV (nextP prev i) (T i) with
  | none => simp
  | some v =>
    rw [List.length_map]
    exact listO_le f _ _ (Nat.le_trans List.length_erase_le hr)
theorem sumO_le (T : Nat → List Int) (f : Nat) (prev : Option (Nat × Int)) (S : Nat → Bool) (N : Nat) : ∀ k, sumO T f prev S N k ≤ k * (1 + UO N f) := by
  intro k
  induction k with
  | zero => simp [sumO, restS]
  | succ k ih =>
    rw [sumO_succ, Nat.succ_mul]
    have := brO_le (T := T) (f := f) (prev := prev) (restS_len S N) k
    split <;> omega
/-- a map of what is gone -/
def GoneM (w : World) (b n : Nat) (S : Nat → Bool) (cnt : Nat) : Prop :=
  ∃ D : DataW Unit, w.ownsMap Tryd.prog 3 (plainElem Tryd.prog 3) b n D ∧ Tidy D ∧ Go.Maps.size D = cnt ∧ (∀ i : Nat, D.atKey (.int .i64 i) (.lit (.int .i64 0)) = .lit (.int .i64 (if S i = true then 1 else 0))) ∧ ∀ i : Nat, has D (.int .i64 i) = S i
theorem GoneM.ext {w w' : World} {b n : Nat} {S : Nat → Bool} {cnt : Nat} (h : GoneM w b n S cnt) (hE : Ext w w') : GoneM w' b n S cnt := by
  obtain ⟨D, ⟨es, clock, hb, hF⟩, h2⟩ := h
  exact ⟨D, ⟨es, clock, heap_ext3 hb hE, hF⟩, h2⟩
theorem GoneM.mono {w : World} {b n n' : Nat} {S : Nat → Bool} {cnt : Nat} (h : GoneM w b n S cnt) (hn : n ≤ n') : GoneM w b n' S cnt := by
  obtain ⟨D, h1, h2⟩ := h
  exact ⟨D, h1.mono hn, h2⟩
theorem GoneM.lt {w : World} {b n : Nat} {S : Nat → Bool} {cnt : Nat} (h : GoneM w b n S cnt) : b < w.heap.size := by
  obtain ⟨D, h1, -⟩ := h
  exact h1.lt
theorem GoneM.made (w : World) : GoneM (w.alloc (.map #[] 0)) w.heap.size 0 (fun _ => false) 0 :=
  ⟨.map [], World.ownsMap_made w Tryd.prog 3 _, tidy_empty, rfl, fun _ => rfl, fun _ => rfl⟩
theorem key_nat (i : Nat) (hi : i ≤ 1000) : keyOf Tryd.prog 3 (.int .i64 i) = some (.int .i64 i) := key_int (WalkArith.wf_i64 (by omega))
theorem lit_nat {i j : Nat} (h : (Lit.int .i64 (i : Int)) = .int .i64 (j : Int)) : i = j := by injection h with _ h; omega
/-- gone[i] -/
theorem wp_gone_look (w : World) {ops : Array Oper} {rest : List Oper} {o : Oper} {a : Act} {Q : Exit → Act → World → Prop} (hg : o.guard = none) (m x : Operand) (hop : o.op = Op.lookup 68 m x false)
    (b n : Nat) (S : Nat → Bool) (cnt : Nat) (hm : a.eval m = .map (some b)) (h : GoneM w b n S cnt) (i : Nat) (hi : i ≤ 1000) (hx : a.eval x = .int .i64 i)
    (hK : wpList Tryd.prog ops Q rest (a.put o.dst (.int .i64 (if S i = true then 1 else 0))) w) : wpList Tryd.prog ops Q (o :: rest) a w := by
  obtain ⟨D, ho, -, -, hf, -⟩ := h
  refine wpList_lookup_own_int w hg m x 68 hop 3 3 .i64 law_int Tryd.underlying68 Tryd.underlying3 (zero_i64 w) b n D hm ho _ _ hx (key_nat i hi) ?_
  intro c hat _
  have e := hf i
  rw [hat] at e
  cases e
  exact hK
/-- gone[i] = 1 -/
theorem wp_gone_put (w : World) {ops : Array Oper} {rest : List Oper} {o : Oper} {a : Act} {Q : Exit → Act → World → Prop} (hg : o.guard = none) (m x y : Operand) (hop : o.op = Op.mapUpdate 68 m x y)
    (b n : Nat) (S : Nat → Bool) (cnt : Nat) (hm : a.eval m = .map (some b)) (h : GoneM w b n S cnt) (hn : n < 1000000) (i : Nat) (hi : i ≤ 1000) (hS : S i = false) (hx : a.eval x = .int .i64 i) (hy : a.eval y = .int .i64 1)
    (hK : ∀ w', GoneM w' b (n + 1) (addS S i) (cnt + 1) → w.grownBy w' (some b) → wpList Tryd.prog ops Q rest (a.put o.dst undef) w') : wpList Tryd.prog ops Q (o :: rest) a w := by
  obtain ⟨D, ho, hD, hsz, hf, hh⟩ := h
  refine wpList_mapUpdate_own w hg m x y 68 hop 3 3 law_int Tryd.underlying68 (plainElem Tryd.prog 3) b n D hm ho (by unfold maxLen; omega) _ (.int .i64 1) _ hx hy (key_nat i hi) (.lit (.int .i64 1)) [] (plainElem_int Tryd.underlying3 (WalkArith.wf_i64 (by omega))) ?_
  intro w' ho' hg'
  have hkl := law_int.key (key_nat i hi)
  refine hK w' ⟨_, ho', hD.put hkl _, by rw [size_put hD, hh, hS, if_neg (by decide), hsz], fun k => ?_, fun k => ?_⟩ hg'
  · unfold addS
    by_cases hk : k = i
    · subst hk
      rw [atKey_put_same hD.isMap hkl]
      simp
    · rw [atKey_put_other (fun e => hk (lit_nat e)), hf]
      simp [hk]
  · unfold addS
    by_cases hk : k = i
    · subst hk
      rw [has_put_same hD.isMap hkl]
      simp
    · rw [has_put_other (fun e => hk (lit_nat e)), hh]
      simp [hk]
/-- delete(gone, i) -/
theorem wp_gone_del (w : World) {ops : Array Oper} {rest : List Oper} {o : Oper} {a : Act} {Q : Exit → Act → World → Prop} (hg : o.guard = none) (m x : Operand) (hop : o.op = Op.call { callee := Callee.builtin Builtin.delete, args := #[m, x], argTypes := #[68, 3] })
    (b n : Nat) (S : Nat → Bool) (cnt : Nat) (hm : a.eval m = .map (some b)) (i : Nat) (hi : i ≤ 1000) (hS : S i = false) (h : GoneM w b n (addS S i) (cnt + 1)) (hx : a.eval x = .int .i64 i)
    (hK : ∀ w', GoneM w' b n S cnt → w.grownBy w' (some b) → wpList Tryd.prog ops Q rest (a.put o.dst (.tuple #[])) w') : wpList Tryd.prog ops Q (o :: rest) a w := by
  obtain ⟨D, ho, hD, hsz, hf, hh⟩ := h
  refine wpList_delete_own w hg m x 68 3 hop 3 law_int Tryd.underlying68 (plainElem Tryd.prog 3) b n D hm ho _ _ hx (key_nat i hi) ?_
  intro w' ho' ht
  have hself : addS S i i = true := by unfold addS; simp
  have hne : ∀ k, ¬k = i → addS S i k = S k := fun k hk => by unfold addS; simp [hk]
  have hs1 := size_del (k := .int .i64 (i : Int)) hD
  rw [hh, hself, if_pos rfl, hsz] at hs1
  refine hK w' ⟨_, ho', hD.del _, by omega, fun k => ?_, fun k => ?_⟩ ht.grown
  · by_cases hk : k = i
    · subst hk
      rw [atKey_del_same, hS]
      simp
    · rw [atKey_del_other (fun e => hk (lit_nat e)), hf, hne k hk]
  · by_cases hk : k = i
    · subst hk
      rw [has_del_same, hS]
    · rw [has_del_other (fun e => hk (lit_nat e)), hh, hne k hk]
/-- len(gone) -/
theorem wp_gone_len (w : World) {ops : Array Oper} {rest : List Oper} {o : Oper} {a : Act} {Q : Exit → Act → World → Prop} (hg : o.guard = none) (m : Operand) (hop : o.op = Op.call { callee := Callee.builtin Builtin.len, args := #[m], argTypes := #[68] })
    (b n : Nat) (S : Nat → Bool) (cnt : Nat) (hm : a.eval m = .map (some b)) (h : GoneM w b n S cnt)
    (hK : wpList Tryd.prog ops Q rest (a.put o.dst (.int .i64 (cnt : Nat))) w) : wpList Tryd.prog ops Q (o :: rest) a w := by
  obtain ⟨D, ho, hD, hsz, -⟩ := h
  refine wpList_len_own w hg m 68 hop 3 3 Tryd.underlying68 (plainElem Tryd.prog 3) b n D hm ho ?_
  rw [hsz]
  exact hK
def prevT : Option (Nat × Int) → Int
  | none => -1
  | some (j, _) => j
def prevN : Option (Nat × Int) → Int
  | none => 0
  | some (_, m) => m
structure EqS2 (n m : Int) : Prop where
  out : n = m
/-- what orders leaves behind it -/
theorem Ext.grownB {w w' : World} (h : Ext w w') {r : Option Nat} : w.grownBy w' r := ⟨h.os, h.tape, h.output, h.size, fun i hi _ => h.block i hi⟩
def RetO (b n : Nat) (S : Nat → Bool) (cnt : Nat) (v : Value) (w : World) (e : Ending) (w' : World) : Prop := e = .returned v ∧ w.grownBy w' (some b) ∧ GoneM w' b n S cnt

set_option maxRecDepth 20000 in
set_option maxHeartbeats 6400000 in
theorem orders06 (T : Tab) (hG : TabG T) (q : Option Addr) (c : Nat) (W0 : World) (hv : ListsAt W0 q T) (b : Nat) (hb : W0.heap.size ≤ b) :
    ∀ (f n cnt : Nat) (S : Nat → Bool) (prev : Option (Nat × Int)) (w : World), cnt + f = T.length → n + UO T.length f < 1000000 → (∀ j m, prev = some (j, m) → j ≤ 1000) → Ext W0 w → GoneM w b n S cnt →
    Calls Tryd.prog 39 #[.slice q T.length c, .map (some b), .int .i64 (prevT prev), .int .i64 (prevN prev)] w
      (RetO b (n + UO T.length f) S cnt (.int .i64 (listO (rowT T) f prev (restS S T.length)).length) w) := by
  intro f
  induction f with
  | zero =>
    intro n cnt S prev w hcnt hn hpv hE hM
    have HM := Lib.hid hM
    obtain rfl : cnt = T.length := by omega
    clear hM hcnt
    go_enter Tryd.func39, Tryd.ntmps39
    go_wp2_with (at_len; refine wp_gone_len _ rfl _ rfl b n S T.length rfl HM.out ?_)
    go_ret
    exact ⟨rfl, World.grownBy.refl _ _, HM.out⟩
  | succ f ih =>
    intro n cnt S prev w hcnt hn hpv hE hM
    have hN6 := hG.len
    have hUe : UO T.length (f + 1) = T.length * (1 + UO T.length f) := rfl
    have hsl := sumO_le (rowT T) f prev S T.length
    have hss := sumO_succ (rowT T) f prev S T.length
    have hsa := sumO_all (rowT T) f prev S T.length
    have hmul : ∀ j, j < T.length → j * (1 + UO T.length f) + (1 + UO T.length f) ≤ UO T.length (f + 1) := fun j hj => by
      have := Nat.mul_le_mul_right (1 + UO T.length f) (show j + 1 ≤ T.length from hj)
      rwa [Nat.succ_mul] at this
    have hIH := fun (n' i : Nat) (x : Int) (y : World) (hi : i < T.length) (hSi : S i = false) (hn' : n' + UO T.length f < 1000000) (hy : Ext W0 y) (hM' : GoneM y b n' (addS S i) (cnt + 1)) =>
      ih n' (cnt + 1) (addS S i) (some (i, x)) y (by omega) hn' (fun j m e => by cases e; omega) hy hM'
    rw [hUe] at hn
    obtain ⟨bb, oo, q0, c0, rfl, -, -⟩ := hv.row (i := 0) (by omega)
    obtain ⟨u, hu⟩ : ∃ u, u = UO T.length f := ⟨_, rfl⟩
    rw [← hu] at hsl hIH hmul hn
    obtain ⟨tot, htot⟩ : ∃ tot, tot = UO T.length (f + 1) := ⟨_, rfl⟩
    rw [← htot] at hmul ⊢
    have htN : T.length * (1 + u) = tot := by rw [htot, hUe, hu]
    rw [htN] at hn
    have hsN := hsl T.length
    rw [htN] at hsN
    obtain ⟨sm, hsm⟩ : ∃ sm, sm = sumO (rowT T) f prev S T.length := ⟨_, rfl⟩
    rw [← hsm] at hsl hss hsa hsN
    have hs0 : sm 0 = 0 := by rw [hsm]; rfl
    have HSS := Lib.hid hss
    have HSA := Lib.hid hsa
    have HS0 := Lib.hid hs0
    have HSL := Lib.hid hsl
    have HMU := Lib.hid hmul
    have HIH := Lib.hid hIH
    have HTN := Lib.hid htN
    have HV := Lib.hid hv
    have HM := Lib.hid hM
    have HE := Lib.hid hE
    have HPV := Lib.hid hpv
    have HG := Lib.hid hG
    have HB := Lib.hid hb
    obtain ⟨tv, htv⟩ : ∃ tv, tv = prevT prev := ⟨_, rfl⟩
    obtain ⟨nv, hnv⟩ : ∃ nv, nv = prevN prev := ⟨_, rfl⟩
    rw [← htv, ← hnv]
    have HTV : EqS2 tv (prevT prev) := ⟨htv⟩
    have HNV : EqS2 nv (prevN prev) := ⟨hnv⟩
    have hcl : ((cnt : Int) == (T.length : Int)) = false := by simp; omega
    have hcl2 : (cnt == T.length) = false := by simp; omega
    have hcl3 : decide (cnt = T.length) = false := by simp; omega
    have hsb := hsN
    clear htv hnv hss hsa hs0 hsl hmul hIH htN hM hE hpv hv hu htot hsm hUe ih hsN hcnt hG hb
    go_enter Tryd.func39, Tryd.ntmps39
    go_wp2_with (at_len; refine wp_gone_len _ rfl _ rfl b n S cnt rfl HM.out ?_)
    go_loopw [9, 19] (fun x i wr => ∃ j n' : Nat, j ≤ T.length ∧ i = .int .i64 j ∧ x = .int .i64 (sm j : Nat) ∧ w.grownBy wr (some b) ∧ GoneM wr b n' S cnt ∧ n' ≤ n + j * (1 + u)) (fun _ i _ => T.length - (intOf i).toNat)
    case atStart => exact ⟨0, n, Nat.zero_le _, rfl, by rw [HS0.out]; rfl, World.grownBy.refl _ _, HM.out, by omega⟩
    case round =>
      obtain ⟨j, n', hj, rfl, rfl, hg, hM, hn'⟩ := hrel
      obtain ⟨wo, rfl⟩ : ∃ wo, wo = wr := ⟨_, rfl⟩
      have hEo : Ext W0 wo := Below.grown HE.out hg HE.out.size (fun k hk => by cases hk; exact HB.out)
      have HEO := Lib.hid hEo
      have HGO := Lib.hid hg
      have HMO := Lib.hid hM
      have hsj := HSL.out j
      clear hM hg
      by_cases hlt : j < T.length
      · have hlt' : (j : Int) < (T.length : Int) := by omega
        have hmj := HMU.out j hlt
        have HSJ := Lib.hid (HSS.out j)
        by_cases hS : S j = true
        · have HSN := Lib.hid (show sm (j + 1) = sm j from by rw [HSJ.out, if_pos hS]; rfl)
          have hif : (if S j = true then (1 : Int) else 0) = 1 := if_pos hS
          clear hS hEo
          go_wp2_with (at_lookup; refine wp_gone_look _ rfl _ _ rfl b n' S cnt rfl HMO.out j (by omega) rfl ?_; rw [hif])
          go_roundw
          case rel => exact ⟨j + 1, n', by omega, by simp, by rw [HSN.out], HGO.out, HMO.out, by rw [Nat.succ_mul]; omega⟩
          case measure => simp [intOf]; omega
        · have hSf : S j = false := by simpa using hS
          have HSF := Lib.hid hSf
          have hif : (if S j = true then (1 : Int) else 0) = 0 := if_neg hS
          have HSJ := Lib.hid (show sm (j + 1) = sm j + (brO (rowT T) f prev (restS S T.length) j).length from by rw [HSJ.out, if_neg hS])
          obtain ⟨b1, o1, q1, c1, he, hc1, hi1⟩ := (HV.out.ext hEo).row hlt
          cases he
          have hlp : 0 < (rowT T j).length := List.length_pos_iff.2 (HG.out.ok.ne hlt)
          have hl2 : (rowT T j).length ≤ 2000 := by rw [rowT_get hlt]; exact HG.out.ls _ (List.getElem_mem hlt)
          obtain ⟨b2, o2, rfl, -⟩ := hi1.at 0 hlp
          have HRD := Lib.hid (fun (k : Nat) (hk : k < (rowT T j).length) => (by
            obtain ⟨b', o', he, hc⟩ := ((HV.out.row hlt).choose_spec.choose_spec.choose_spec.choose_spec.2.2).at k hk
            exact trivial : True))
          have hrw : ∃ cc, W0.cell? ⟨bb, oo + j, none⟩ = some (.slice (some ⟨b2, o2, none⟩) (rowT T j).length cc) ∧ IntsAt W0 (some ⟨b2, o2, none⟩) (rowT T j) := by
            obtain ⟨b3, o3, q3, c3, he3, hc3, hi3⟩ := HV.out.row hlt
            cases he3
            have hh := hEo.cell hc3
            rw [hc1] at hh
            cases hh
            exact ⟨c1, hc3, hi3⟩
          obtain ⟨cc, hc0, hi0⟩ := hrw
          have HLI := Lib.hid hi0
          have HLC := Lib.hid hc0
          have hBO := fun (k : Nat) (hk : k < (rowT T j).length) => bestV_of (p := nextP prev j) (l := rowT T j) hk
          have hBN := bestV_none (p := nextP prev j) (l := rowT T j)
          have HBS := Lib.hid (fun (v : Int) (h : bestV (nextP prev j) (rowT T j) = some v) => brO_some (f := f) (rest := restS S T.length) h)
          have HBZ := Lib.hid (fun (h : bestV (nextP prev j) (rowT T j) = none) => brO_none (f := f) (rest := restS S T.length) h)
          obtain ⟨l, hl⟩ : ∃ l, l = rowT T j := ⟨_, rfl⟩
          rw [← hl] at HLI HLC hlp hl2 HBS HBZ
          have HBO := Lib.hid (show ∀ (k : Nat) (hk : k < l.length), nextP prev j l[k] = true → (∀ m (h : m < l.length), k < m → nextP prev j l[m] = false) → bestV (nextP prev j) l = some l[k] from by rw [hl]; exact hBO)
          have HBN := Lib.hid (show (∀ m (h : m < l.length), nextP prev j l[m] = false) → bestV (nextP prev j) l = none from by rw [hl]; exact hBN)
          obtain ⟨ln, hln⟩ : ∃ ln, ln = l.length := ⟨_, rfl⟩
          rw [← hln] at HLC hlp hl2
          have HLN : EqS ln l.length := ⟨hln⟩
          have HCR := Lib.hid (fun y (h : Ext W0 y) => (h.cell HLC.out : y.cell? ⟨bb, oo + j, none⟩ = some (.slice (some ⟨b2, o2, none⟩) ln cc)))
          have k1 := HCR.out wo hEo
          have hwl : IntKind.i64.wrap ((ln : Int) - 1) = (ln : Int) - 1 := IntWalk.i64_in _ (by omega)
          clear hS hSf hEo hc1 hi1 HRD hc0 hi0 hBO hBN hl hln
          go_upto_region 9 with (at_lookup; refine wp_gone_look _ rfl _ _ rfl b n' S cnt rfl HMO.out j (by omega) rfl ?_; rw [hif])
          go_loopw [11] (fun a w3 => ∃ m : Nat, m ≤ ln ∧ a = .int .i64 ((m : Int) - 1) ∧ (∀ x (h : x < l.length), m ≤ x → nextP prev j l[x] = false) ∧ Ext wo w3) (fun a _ => ((intOf a) + 1).toNat)
          case atStart => exact ⟨ln, Nat.le_refl _, rfl, fun x h hx => by have := HLN.out; omega, Ext.refl _⟩
          case round =>
            obtain ⟨m, hm, rfl, hfm, hE3⟩ := hrel
            have HFM := Lib.hid hfm
            have HE3 := Lib.hid hE3
            clear hfm hE3 k1
            by_cases hm0 : m = 0
            · subst hm0
              have HSN := Lib.hid (show sm (j + 1) = sm j from by rw [HSJ.out, HBZ.out (HBN.out fun x h => HFM.out x h (Nat.zero_le _))]; rfl)
              have hm1 : ((0 : Nat) : Int) - 1 = -1 := by omega
              rw [hm1]
              clear hm1
              go_wp2
              go_roundw
              case rel => exact ⟨j + 1, n', by omega, by simp, by rw [HSN.out], HGO.out.trans (Ext.grownB HE3.out), HMO.out.ext HE3.out, by rw [Nat.succ_mul]; omega⟩
              case measure => simp [intOf]; omega
            · obtain ⟨p, rfl⟩ : ∃ p, m = p + 1 := ⟨m - 1, by omega⟩
              have hpl : p < l.length := by have := HLN.out; omega
              have hmp : ((p + 1 : Nat) : Int) - 1 = (p : Int) := by omega
              rw [hmp]
              obtain ⟨b', o', he, hcx⟩ := HLI.out.at p hpl
              cases he
              have HNX := Lib.hid (fun (m : Nat) (h : m < l.length) (hpm : p < m) => HFM.out m h hpm)
              have hbv := HBO.out p hpl
              have HPL := Lib.hid hpl
              have hxb : nextP prev j l[p] = true ∨ nextP prev j l[p] = false := by cases nextP prev j l[p] <;> simp
              have hstay : nextP prev j l[p] = false → ∀ x (h : x < l.length), p ≤ x → nextP prev j l[x] = false := fun h0 x h hx => by
                by_cases e : x = p
                · subst e; exact h0
                · exact HNX.out x h (by omega)
              obtain ⟨x, hx⟩ : ∃ x : Int, x = l[p] := ⟨_, rfl⟩
              replace hcx : W0.cell? ⟨b2, o2 + p, none⟩ = some (.int .i64 x) := by rw [hx]; exact hcx
              replace hbv : nextP prev j x = true → (∀ m (h : m < l.length), p < m → nextP prev j l[m] = false) → bestV (nextP prev j) l = some x := by rw [hx]; exact hbv
              replace hxb : nextP prev j x = true ∨ nextP prev j x = false := by rw [hx]; exact hxb
              replace hstay : nextP prev j x = false → ∀ x (h : x < l.length), p ≤ x → nextP prev j l[x] = false := by rw [hx]; exact hstay
              have HXR := Lib.hid (fun y (h : Ext W0 y) => (⟨HCR.out y h, h.cell hcx⟩ : y.cell? ⟨bb, oo + j, none⟩ = some (.slice (some ⟨b2, o2, none⟩) ln cc) ∧ y.cell? ⟨b2, o2 + p, none⟩ = some (.int .i64 x)))
              obtain ⟨j0, j1⟩ := HXR.out wr (HEO.out.trans HE3.out)
              have hpln : (p : Int) < (ln : Int) := by have := HLN.out; omega
              have hp0 : (0 : Int) ≤ (p : Int) := by omega
              have HST := Lib.hid hstay
              have HBV := Lib.hid (fun h => hbv h HNX.out)
              clear hm0 hmp hcx hbv hstay hx hpl
              rcases hxb with hp | hp
              · have HXV := Lib.hid (HBS.out x (HBV.out hp))
                have HSN := Lib.hid (show sm (j + 1) = sm j + (listO (rowT T) f (some (j, x)) ((restS S T.length).erase j)).length from by rw [HSJ.out, HXV.out])
                have HLO := Lib.hid (listO_le (T := rowT T) (N := T.length) f (some (j, x)) ((restS S T.length).erase j) (Nat.le_trans List.length_erase_le (restS_len S T.length)))
                have HAH := Lib.hid (fun i a y => (ahead06 i a j x y : Calls Tryd.prog _ _ _ _))
                clear HBZ HBN HBS HBO HBV HST HXV HSJ
                cases prev with
                | none =>
                  have htn : ¬(0 : Int) ≤ tv := by have := HTV.out; rw [this]; decide
                  go_upto_region 11 with (fail)
                  obtain ⟨W4, hW4⟩ : ∃ W4, W4 = wr := ⟨_, rfl⟩
                  rw [← hW4]
                  have HE4 := Lib.hid (show Ext wo W4 from by rw [hW4]; exact HE3.out)
                  clear hW4
                  have hpn : ¬(p : Int) < 0 := by omega
                  have HM4 := Lib.hid (HMO.out.ext HE4.out)
                  have HG4 := Lib.hid (show w.grownBy W4 (some b) from HGO.out.trans (Ext.grownB HE4.out))
                  have HE04 := Lib.hid (HEO.out.trans HE4.out)
                  have hnu : n' + 1 + u < 1000000 := by omega
                  have HIX := Lib.hid (fun y (hy : Ext W0 y) (hM' : GoneM y b (n' + 1) (addS S j) (cnt + 1)) => (by
                    have h := HIH.out (n' + 1) j x y hlt HSF.out hnu hy hM'
                    rw [restS_add] at h
                    exact h : Calls Tryd.prog 39 #[.slice (some ⟨bb, oo, none⟩) T.length c, .map (some b), .int .i64 j, .int .i64 x] y
                      (RetO b (n' + 1 + u) (addS S j) (cnt + 1) (.int .i64 (listO (rowT T) f (some (j, x)) ((restS S T.length).erase j)).length) y)))
                  obtain ⟨K, hK⟩ : ∃ K, K = (listO (rowT T) f (some (j, x)) ((restS S T.length).erase j)).length := ⟨_, rfl⟩
                  rw [← hK] at HIX HSN
                  have hw : IntKind.i64.wrap ((sm j : Int) + (K : Int)) = (sm j : Int) + (K : Int) := by
                    have h1 := HSL.out (j + 1)
                    rw [HSN.out, Nat.succ_mul] at h1
                    exact IntWalk.i64_in _ (by omega)
                  clear hp j0 j1 hK HLO
                  go_wp2_with (first
                    | (at_mapUpdate; refine wp_gone_put _ rfl _ _ _ rfl b n' S cnt rfl HM4.out (by omega) j (by omega) HSF.out rfl rfl ?_; intro w5 hM5 hg5; have hE5 : Ext W0 w5 := Below.grown HE04.out hg5 HE04.out.size (fun k hk => by cases hk; exact HB.out); obtain ⟨d0, d1⟩ := HXR.out w5 hE5; have HM5 := Lib.hid hM5; have HG5 := Lib.hid hg5; have HE5 := Lib.hid hE5; clear hM5 hg5 hE5)
                    | (go_at_call 39; refine (HIX.out _ HE5.out HM5.out).mono ?_; rintro e w6 ⟨rfl, hg6, hM6⟩; have HM6 := Lib.hid hM6; have HG6 := Lib.hid hg6; clear hM6 hg6)
                    | (at_delete; refine wp_gone_del _ rfl _ _ rfl b (n' + 1 + u) S cnt rfl j (by omega) HSF.out HM6.out rfl ?_; intro w7 hM7 hg7; have HM7 := Lib.hid hM7; have HG7 := Lib.hid hg7; clear hM7 hg7))
                  go_roundw
                  case rel => exact ⟨j + 1, n' + 1 + u, by omega, by simp, by rw [HSN.out]; rfl, HG4.out.trans (HG5.out.trans (HG6.out.trans HG7.out)), HM7.out, by rw [Nat.succ_mul]; omega⟩
                  case measure => simp [intOf]; omega
                | some pm =>
                  obtain ⟨jj, mm⟩ := pm
                  have hjj : (0 : Int) ≤ tv := by have h : tv = (jj : Int) := HTV.out; omega
                  have hah : ahd jj mm j x = true := hp
                  have HAA := Lib.hid (show Calls Tryd.prog 49 #[.int .i64 tv, .int .i64 nv, .int .i64 j, .int .i64 x] wr (RetE (.bool true) wr) from by
                    have h := HAH.out jj mm wr
                    rw [hah] at h
                    rw [HTV.out, HNV.out]
                    exact h)
                  clear hah
                  go_upto_region 11 with (go_at_call 49; refine HAA.out.mono ?_; rintro e W4 ⟨rfl, hE4⟩)
                  have HE4 := Lib.hid (HE3.out.trans hE4)
                  clear hE4
                  have hpn : ¬(p : Int) < 0 := by omega
                  have HM4 := Lib.hid (HMO.out.ext HE4.out)
                  have HG4 := Lib.hid (show w.grownBy W4 (some b) from HGO.out.trans (Ext.grownB HE4.out))
                  have HE04 := Lib.hid (HEO.out.trans HE4.out)
                  have hnu : n' + 1 + u < 1000000 := by omega
                  have HIX := Lib.hid (fun y (hy : Ext W0 y) (hM' : GoneM y b (n' + 1) (addS S j) (cnt + 1)) => (by
                    have h := HIH.out (n' + 1) j x y hlt HSF.out hnu hy hM'
                    rw [restS_add] at h
                    exact h : Calls Tryd.prog 39 #[.slice (some ⟨bb, oo, none⟩) T.length c, .map (some b), .int .i64 j, .int .i64 x] y
                      (RetO b (n' + 1 + u) (addS S j) (cnt + 1) (.int .i64 (listO (rowT T) f (some (j, x)) ((restS S T.length).erase j)).length) y)))
                  obtain ⟨K, hK⟩ : ∃ K, K = (listO (rowT T) f (some (j, x)) ((restS S T.length).erase j)).length := ⟨_, rfl⟩
                  rw [← hK] at HIX HSN
                  have hw : IntKind.i64.wrap ((sm j : Int) + (K : Int)) = (sm j : Int) + (K : Int) := by
                    have h1 := HSL.out (j + 1)
                    rw [HSN.out, Nat.succ_mul] at h1
                    exact IntWalk.i64_in _ (by omega)
                  clear hp j0 j1 hK HLO
                  go_wp2_with (first
                    | (at_mapUpdate; refine wp_gone_put _ rfl _ _ _ rfl b n' S cnt rfl HM4.out (by omega) j (by omega) HSF.out rfl rfl ?_; intro w5 hM5 hg5; have hE5 : Ext W0 w5 := Below.grown HE04.out hg5 HE04.out.size (fun k hk => by cases hk; exact HB.out); obtain ⟨d0, d1⟩ := HXR.out w5 hE5; have HM5 := Lib.hid hM5; have HG5 := Lib.hid hg5; have HE5 := Lib.hid hE5; clear hM5 hg5 hE5)
                    | (go_at_call 39; refine (HIX.out _ HE5.out HM5.out).mono ?_; rintro e w6 ⟨rfl, hg6, hM6⟩; have HM6 := Lib.hid hM6; have HG6 := Lib.hid hg6; clear hM6 hg6)
                    | (at_delete; refine wp_gone_del _ rfl _ _ rfl b (n' + 1 + u) S cnt rfl j (by omega) HSF.out HM6.out rfl ?_; intro w7 hM7 hg7; have HM7 := Lib.hid hM7; have HG7 := Lib.hid hg7; clear hM7 hg7))
                  go_roundw
                  case rel => exact ⟨j + 1, n' + 1 + u, by omega, by simp, by rw [HSN.out]; rfl, HG4.out.trans (HG5.out.trans (HG6.out.trans HG7.out)), HM7.out, by rw [Nat.succ_mul]; omega⟩
                  case measure => simp [intOf]; omega
              · have HFN := Lib.hid (HST.out hp)
                clear HBZ HBN HBS HBO HBV HST HSJ
                cases prev with
                | none => exact absurd hp (by simp [nextP])
                | some pm =>
                  obtain ⟨jj, mm⟩ := pm
                  have hjj : (0 : Int) ≤ tv := by have h : tv = (jj : Int) := HTV.out; omega
                  have hah : ahd jj mm j x = false := hp
                  have HAA := Lib.hid (show Calls Tryd.prog 49 #[.int .i64 tv, .int .i64 nv, .int .i64 j, .int .i64 x] wr (RetE (.bool false) wr) from by
                    have h := ahead06 jj mm j x wr
                    rw [hah] at h
                    rw [HTV.out, HNV.out]
                    exact h)
                  have hwp : IntKind.i64.wrap ((p : Int) - 1) = (p : Int) - 1 := IntWalk.i64_in _ (by omega)
                  clear hah hp
                  go_wp2_with (go_at_call 49; refine HAA.out.mono ?_; rintro e w4 ⟨rfl, hE4⟩)
                  go_roundw
                  case rel => exact ⟨p, by omega, rfl, HFN.out, HE3.out.trans hE4⟩
                  case measure => simp [intOf]
      · obtain rfl : j = T.length := by omega
        have hge : ¬(T.length : Int) < (T.length : Int) := by omega
        have HR := Lib.hid (show sm T.length = (listO (rowT T) (f + 1) prev (restS S T.length)).length from HSA.out)
        clear hEo
        go_wp2
        go_ret
        exact ⟨by rw [← HR.out]; rfl, HGO.out, HMO.out.mono (by rw [HTN.out] at hn'; exact hn')⟩
theorem restS_none (N : Nat) : restS (fun _ => false) N = List.range N := by
  unfold restS
  rw [List.filter_eq_self]
  intro x _
  rfl
noncomputable def ordersA (C : Ch) : Int := okN (errC C true) ((allO C.meters.length (rowT (tabC C))).length : Nat)
theorem UO_6 {N : Nat} (h : N ≤ 6) : UO N N < 1000000 := by
  have : N = 0 ∨ N = 1 ∨ N = 2 ∨ N = 3 ∨ N = 4 ∨ N = 5 ∨ N = 6 := by omega
  rcases this with rfl | rfl | rfl | rfl | rfl | rfl | rfl <;> decide
set_option maxRecDepth 20000 in
set_option maxHeartbeats 3200000 in
theorem Orders06 (C : Ch) (v : Value) (w : World) (hv : ChV w v C) (hs : ChSm C) (hT : TabW w) :
    Calls Tryd.prog 20 #[v] w (RetE (.tuple #[.int .i64 (ordersA C), .int .i64 (errC C true)]) w) := by
  have hmm := @run_makeMap Tryd.prog
  have HV := Lib.hid hv
  have HS := Lib.hid hs
  have HT := Lib.hid hT
  obtain ⟨p, c, q, d, rfl, hp, hq⟩ := hv
  clear hp hq hT hs
  go_enter Tryd.func20, Tryd.ntmps20
  go_upto_region 1 with (fail)
  obtain ⟨s0, hs0⟩ : ∃ s0, s0 = w.heap.size := ⟨_, rfl⟩
  obtain ⟨W, hW⟩ : ∃ W, W = w.alloc (.cells #[.slice p C.meters.length c, .slice q C.extra.length d, .int .i64 C.frm, .int .i64 C.tto] 25) := ⟨_, rfl⟩
  have m0 : W.heap[s0]? = some (.cells #[.slice p C.meters.length c, .slice q C.extra.length d, .int .i64 C.frm, .int .i64 C.tto] 25) := by rw [hs0, hW]; exact heap_new _ _
  have hE : Ext w W := by rw [hW]; exact Ext.alloc (Ext.refl _) _
  rw [← hs0, ← hW]
  have HKC := Lib.hid (fun y (h : Ext W y) => (⟨h.cell (cell_of_heap m0 0), h.cell (cell_of_heap m0 1), h.cell (cell_of_heap m0 2), h.cell (cell_of_heap m0 3)⟩ :
    y.cell? ⟨s0, 0, none⟩ = some (.slice p C.meters.length c) ∧ y.cell? ⟨s0, 1, none⟩ = some (.slice q C.extra.length d) ∧ y.cell? ⟨s0, 2, none⟩ = some (.int .i64 C.frm) ∧ y.cell? ⟨s0, 3, none⟩ = some (.int .i64 C.tto)))
  have HE := Lib.hid hE
  have HVW := Lib.hid (fun y (h : Ext W y) => HV.out.ext (HE.out.trans h))
  have HAK := Lib.hid (ask06 C true _ W (HV.out.ext hE) HS.out (HT.out.ext hE))
  have d0 := cell_of_heap m0 0
  have d1 := cell_of_heap m0 1
  have d2 := cell_of_heap m0 2
  have d3 := cell_of_heap m0 3
  obtain ⟨z, hz⟩ : ∃ z, z = errC C true := ⟨_, rfl⟩
  rw [← hz] at HAK
  have HZ := Lib.hid hz
  clear hW m0 hE hs0
  by_cases hz0 : z = 0
  case neg =>
    have hg : (z == 0) = false := by simpa using hz0
    have HNA := Lib.hid (show ordersA C = 0 from by unfold ordersA; rw [← hz, okN_ne hz0])
    clear hz0 hz
    go_wp2_with (go_at_call 27; refine HAK.out.mono ?_; rintro e w2 ⟨u, vs, rfl, hR, hE2, hcp⟩)
    go_ret2
    exact RetE.fin (HE.out.trans hE2) (by rw [HNA.out, ← HZ.out]; rfl)
  subst hz0
  obtain ⟨hC, hbt, hso⟩ := errC_0 hz.symm
  have hG : TabG (tabC C) := tabC_ok hC hso
  have hln := tabC_len C
  rw [askT_0 hz.symm] at HAK
  have HNA := Lib.hid (show ordersA C = ((listO (rowT (tabC C)) (tabC C).length none (restS (fun _ => false) (tabC C).length)).length : Nat) from by unfold ordersA; rw [← hz, okN_0 rfl, restS_none, hln]; rfl)
  obtain ⟨T, hT⟩ : ∃ T, T = tabC C := ⟨_, rfl⟩
  rw [← hT] at HAK HNA hG
  have HG := Lib.hid hG
  have hn6 := hG.len
  clear hz hC hbt hso hln hT hG
  go_upto_region 4 with (go_at_call 27; refine HAK.out.mono ?_; rintro e w2 ⟨u, vs, rfl, hR, hE2, hcp⟩)
  obtain ⟨qt, ct, rfl, hLT⟩ := hR.lists
  have HLT := Lib.hid hLT
  have HE2 := Lib.hid hE2
  have HOR := Lib.hid (orders06 T HG.out qt ct w2 hLT w2.heap.size (Nat.le_refl _) T.length 0 0 (fun _ => false) none (w2.alloc (.map #[] 0)) (by omega) (by have := UO_6 hn6; omega) (fun j m e => by cases e) (Ext.alloc (Ext.refl _) _) (GoneM.made w2))
  obtain ⟨K, hK⟩ : ∃ K, K = (listO (rowT T) T.length none (restS (fun _ => false) T.length)).length := ⟨_, rfl⟩
  rw [← hK] at HOR HNA
  have HOR := Lib.hid (show Calls Tryd.prog 39 #[.slice qt T.length ct, .map (some w2.heap.size), .int .i64 (-1), .int .i64 0] (w2.alloc (.map #[] 0)) (fun e w' => e = .returned (.int .i64 (K : Nat)) ∧ Ext w2 w') from
    HOR.out.mono fun e w' h => ⟨h.1, Below.grown (Ext.alloc (Ext.refl w2) _) h.2.1 (by rw [size_alloc]; omega) (fun i hi => by cases hi; exact Nat.le_refl _)⟩)
  clear hR hcp hLT hE2 hK
  go_wp2_with (go_at_call 39; refine HOR.out.mono ?_; rintro e w3 ⟨rfl, hE3⟩)
  go_ret2
  exact RetE.fin (HE.out.trans (HE2.out.trans hE3)) (by rw [HNA.out, ← HZ.out]; rfl)
end Go.Proofs.YtaoamnhchidjfaaDoor
