
/- Maps of counts that a call makes: look-ups and stores; the walk of the reference's sorted. -/
import Derived.Test.YtppncdbhebgcaaaGreatDoorQ9a
import Derived.Test.YtppncdbhebgcaaaGreatDoorQ8b
import Derived.Maps.OwnOps
import Derived.Maps.Views
namespace Go.Proofs.YtppncdbhebgcaaaGreatDoor
open Go.RowKit Go.Maps

/-- a map of counts: f tells the count of each key -/
def CntMap (w : World) (kt : TypeId) (b n : Nat) (f : Lit → Int) : Prop :=
  ∃ D : DataW Unit, w.ownsMap Tryz.prog kt (plainElem Tryz.prog 3) b n D ∧ IsMap D ∧ ∀ k, D.atKey k (.lit (.int .i64 0)) = .lit (.int .i64 (f k))
open Classical in
noncomputable def cntUp (f : Lit → Int) (kl : Lit) (v : Int) : Lit → Int := fun k => if k = kl then v else f k
theorem cntUp_same (f : Lit → Int) (kl : Lit) (v : Int) : cntUp f kl v kl = v := if_pos rfl
theorem cntUp_other (f : Lit → Int) {kl k : Lit} (v : Int) (h : ¬k = kl) : cntUp f kl v k = f k := if_neg h
theorem CntMap.made (w : World) (kt : TypeId) : CntMap (w.alloc (.map #[] 0)) kt w.heap.size 0 (fun _ => 0) :=
  ⟨.map [], World.ownsMap_made w Tryz.prog kt _, isMap_empty, fun _ => rfl⟩
theorem CntMap.lt {w : World} {kt : TypeId} {b n : Nat} {f : Lit → Int} (h : CntMap w kt b n f) : b < w.heap.size := by
  obtain ⟨D, h1, -⟩ := h
  exact h1.lt
theorem CntMap.ext {w w' : World} {kt : TypeId} {b n : Nat} {f : Lit → Int} (h : CntMap w kt b n f) (hE : Ext w w') : CntMap w' kt b n f := by
  obtain ⟨D, ⟨es, clock, hb, hF⟩, h2⟩ := h
  exact ⟨D, ⟨es, clock, heap_ext3 hb hE, hF⟩, h2⟩
theorem zero_i64 (w : World) : (zeroValue 3).run Tryz.prog w = .ok (.int .i64 0) w := by kernel_rfl
theorem law_int : Keyed Tryz.prog 3 := int_keyed Tryz.underlying3
theorem key_int {a : Int} (h : (Lit.int .i64 a).wf = true) : keyOf Tryz.prog 3 (.int .i64 a) = some (.int .i64 a) := keyOf_int_mk Tryz.underlying3 h
/-- m[k] -/
theorem wp_cnt_look (w : World) {ops : Array Oper} {rest : List Oper} {o : Oper} {a : Act} {Q : Exit → Act → World → Prop} (hg : o.guard = none) (m x : Operand) (t : TypeId) (hop : o.op = Op.lookup t m x false)
    (kt : TypeId) (K : Keyed Tryz.prog kt) (ht : Tryz.prog.underlying t = some (.map kt 3)) (b n : Nat) (f : Lit → Int) (hm : a.eval m = .map (some b)) (h : CntMap w kt b n f) (key : Value) (kl : Lit) (hx : a.eval x = key) (hkey : keyOf Tryz.prog kt key = some kl)
    (hK : wpList Tryz.prog ops Q rest (a.put o.dst (.int .i64 (f kl))) w) : wpList Tryz.prog ops Q (o :: rest) a w := by
  obtain ⟨D, ho, -, hf⟩ := h
  refine wpList_lookup_own_int w hg m x t hop kt 3 .i64 K ht Tryz.underlying3 (zero_i64 w) b n D hm ho key kl hx hkey ?_
  intro c hat _
  have e := hf kl
  rw [hat] at e
  cases e
  exact hK
/-- m[k] = v -/
theorem wp_cnt_put (w : World) {ops : Array Oper} {rest : List Oper} {o : Oper} {a : Act} {Q : Exit → Act → World → Prop} (hg : o.guard = none) (m x y : Operand) (t : TypeId) (hop : o.op = Op.mapUpdate t m x y)
    (kt : TypeId) (K : Keyed Tryz.prog kt) (ht : Tryz.prog.underlying t = some (.map kt 3)) (b n : Nat) (f : Lit → Int) (hm : a.eval m = .map (some b)) (h : CntMap w kt b n f) (hn : n < maxLen) (key : Value) (kl : Lit) (hx : a.eval x = key) (hkey : keyOf Tryz.prog kt key = some kl)
    (v : Int) (hv : a.eval y = .int .i64 v) (hw : (Lit.int .i64 v).wf = true) (hK : ∀ w', CntMap w' kt b (n + 1) (cntUp f kl v) → w.grownBy w' (some b) → wpList Tryz.prog ops Q rest (a.put o.dst undef) w') : wpList Tryz.prog ops Q (o :: rest) a w := by
  obtain ⟨D, ho, hD, hf⟩ := h
  refine wpList_mapUpdate_own w hg m x y t hop kt 3 K ht (plainElem Tryz.prog 3) b n D hm ho hn key (.int .i64 v) kl hx hv hkey (.lit (.int .i64 v)) [] (plainElem_int Tryz.underlying3 hw) ?_
  intro w' ho' hg'
  refine hK w' ⟨_, ho', hD.put kl _, fun k => ?_⟩ hg'
  by_cases hk : k = kl
  · subst hk
    rw [cntUp_same]
    exact atKey_put_same hD (K.key hkey) _ _
  · rw [cntUp_other f v hk, ← hf k]
    exact atKey_put_other hk _ _
/-- the counts of numbers, as a function -/
def CntInt (w : World) (b n : Nat) (f : Int → Int) : Prop := ∃ g, CntMap w 3 b n g ∧ ∀ s, g (.int .i64 s) = f s

set_option maxRecDepth 20000 in
set_option maxHeartbeats 1600000 in
theorem rsorted04 (b n : Nat) (f : Int → Int) (m : Nat) (hm : m ≤ 2000) (w : World) (h : CntInt w b n f) :
    Calls Tryz.prog 122 #[.map (some b), .int .i64 m] w (fun e w' => ∃ v, e = .returned v ∧ w'.ownsRow w.heap.size 3 1 v (pickTo (fun i => decide (0 < f i)) (m + 1)).length (intVs (pickTo (fun i => decide (0 < f i)) (m + 1))) ∧ Ext w w') := by
  obtain ⟨g, hg, hgf⟩ := h
  have HG := Lib.hid hg
  have HGF := Lib.hid hgf
  obtain ⟨i0, hi, hz0, hz1, hz2⟩ := info_parts info_a
  clear hg hgf
  obtain ⟨F, hF⟩ : ∃ F : Nat → Bool, F = fun i : Nat => decide (0 < f i) := ⟨_, rfl⟩
  rw [← hF]
  have HF := Lib.hid (fun i : Nat => (by rw [hF] : F i = decide (0 < f i)))
  clear hF
  go_enter Tryz.func122, Tryz.ntmps122
  go_wp2
  go_loopw [5, 6] (fun u i wr => ∃ k : Nat, k ≤ m + 1 ∧ i = .int .i64 k ∧ Ext w wr ∧ wr.ownsRow w.heap.size 3 1 u (pickTo F k).length (intVs (pickTo F k))) (fun _ i _ => m + 1 - (intOf i).toNat)
  case atStart => exact ⟨0, Nat.zero_le _, rfl, Ext.refl _, World.ownsRow_nil _ _ _ _⟩
  case round =>
    obtain ⟨k, hk, rfl, hE, hO⟩ := hrel
    have HE := Lib.hid hE
    have HO := Lib.hid hO
    clear hE hO
    by_cases hlt : k < m + 1
    · have hle : (k : Int) ≤ (m : Int) := by omega
      have HPK := Lib.hid (pickTo_succ F k)
      have hpl := pickTo_len F k
      have hfk := HF.out k
      obtain ⟨L0, hL0⟩ : ∃ L0, L0 = pickTo F k := ⟨_, rfl⟩
      rw [← hL0] at HO HPK hpl
      have hgk := HGF.out k
      obtain ⟨c, hc⟩ : ∃ c, c = f k := ⟨_, rfl⟩
      rw [← hc] at hfk hgk
      have HGK := Lib.hid hgk
      have HCM := Lib.hid (HG.out.ext HE.out)
      clear hL0 hc hgk
      by_cases hpos : 0 < c
      · rw [decide_eq_true hpos] at hfk
        have HPN := Lib.hid (show pickTo F (k + 1) = L0 ++ [(k : Int)] from by rw [HPK.out, hfk]; simp)
        have hsz := HE.out.size
        clear hfk
        go_wp2_with (first
          | (at_lookup; refine wp_cnt_look _ rfl _ _ _ rfl 3 law_int Tryz.underlying97 b n g rfl HCM.out _ (.int .i64 (k : Int)) rfl (key_int (WalkArith.wf_i64 (by omega))) ?_; rw [HGK.out])
          | (at_builtin; refine wpList_append_lies _ rfl (.tmp 16) (.tmp 18) 23 rfl w.heap.size 3 i0 (.int .i64 0) 1 8 Tryz.underlying23 hi hz0 hz1 hz2 rfl (by decide) _ L0.length _ rfl (HO.out.alloc _) ⟨wr.heap.size, 0, none⟩ 1 1 [.int .i64 (k : Int)] rfl rfl (hnewsE (Ext.refl _) rfl) (one_int _) (by decide) ?c3 ?c4 ?c5 (wr.heap.size + 1) (size_alloc _ _) ?_))
        case c3 => unfold maxLen; omega
        case c4 => omega
        case c5 => first | omega | (rw [size_alloc]; omega)
        intro g4 cap4 w4 hown4 hgr4 hat4 hlt4
        have hE4 : Ext w w4 := Below.grown (HE.out.alloc _) hgr4 (by rw [size_alloc]; omega) (fun j hj => (HO.out.lt j hj).1)
        have HO4 := Lib.hid hown4
        have HE4 := Lib.hid hE4
        clear hown4 hgr4 hat4 hlt4 hE4 hsz
        go_wp2
        go_roundw
        case rel => exact ⟨k + 1, by omega, by simp, HE4.out, by rw [HPN.out, intVs_snoc, List.length_append]; exact HO4.out⟩
        case measure => simp [intOf]; omega
      · rw [decide_eq_false hpos] at hfk
        have HPN := Lib.hid (show pickTo F (k + 1) = L0 from by rw [HPK.out, hfk]; simp)
        clear hfk
        go_wp2_with (at_lookup; refine wp_cnt_look _ rfl _ _ _ rfl 3 law_int Tryz.underlying97 b n g rfl HCM.out _ (.int .i64 (k : Int)) rfl (key_int (WalkArith.wf_i64 (by omega))) ?_; rw [HGK.out])
        go_roundw
        case rel => exact ⟨k + 1, by omega, by simp, HE.out, by rw [HPN.out]; exact HO.out⟩
        case measure => simp [intOf]; omega
    · obtain rfl : k = m + 1 := by omega
      have hgt : ¬((m + 1 : Nat) : Int) ≤ (m : Int) := by omega
      go_wp2
      go_ret
      exact ⟨_, rfl, HO.out, HE.out⟩
end Go.Proofs.YtppncdbhebgcaaaGreatDoor
