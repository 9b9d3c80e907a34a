/- The walk of with: a plan with one more replacement. -/
import Derived.Test.YtkcilgjkdiopnaaCp7
namespace Go.Proofs.Ytkcilgjkdiopnaa
open Go.RowKit

theorem ExtW.call2 {P : Program} {f : FuncId} {args : Array Value} {W : World} {x : ExtW W} {v : Value} (h : Calls P f args x.w (RetE v x.w)) : Calls P f args x.w fun e w'' => e = .returned v ∧ ∃ y : ExtW W, w'' = y.w ∧ Ext x.w y.w :=
  h.mono fun _ _ ⟨he, hE⟩ => ⟨he, ⟨_, x.h.trans hE⟩, rfl, hE⟩
/-- the numbers below n that are one number, or lie in a list -/
def addTo (rs : List Int) (what : Int) : Nat → List Int
  | 0 => []
  | i + 1 => if (i : Int) = what ∨ (i : Int) ∈ rs then addTo rs what i ++ [(i : Int)] else addTo rs what i
theorem addTo_len (rs : List Int) (what : Int) : ∀ n, (addTo rs what n).length ≤ n
  | 0 => by simp [addTo]
  | n + 1 => by
    have := addTo_len rs what n
    simp only [addTo]
    split
    · rw [List.length_append, List.length_singleton]; omega
    · omega
def withL (n : Nat) (l : List Wk) (week what : Int) : List Wk :=
  if 0 ≤ week ∧ week < l.length then (if what < 0 then l.set week.toNat ⟨1, (wkAt l week.toNat).recs⟩ else l.set week.toNat ⟨(wkAt l week.toNat).needle, addTo (wkAt l week.toNat).recs what n⟩) else l
theorem withL_len (n : Nat) (l : List Wk) (week what : Int) : (withL n l week what).length = l.length := by
  unfold withL
  split
  · split <;> simp
  · rfl

theorem PlanOwn.setNeedle {M g n c k : Nat} {W : World} {l : List Wk} {m : Int} (h : PlanOwn M W (.slice (some ⟨g, 0, none⟩) n c) l) (hk : k < l.length) (hn : n = l.length) :
    PlanOwn M (W.setCell ⟨g, k * 2, none⟩ (.int .i64 m)) (.slice (some ⟨g, 0, none⟩) n c) (l.set k ⟨m, l[k].recs⟩) := by
  obtain ⟨xs, h1, h2⟩ := h
  subst hn
  refine ⟨xs.set (k * 2) (.int .i64 m), by rw [List.length_set]; exact ownsRow_setV h1, fun i hi => ?_⟩
  have hxs := h1.1
  rw [List.length_set] at hi
  have h3 := h2.fr (E := fun b => b = g) ((Fr.refl (fun b => b = g) W).set (o := k * 2) (u := .int .i64 m) rfl) (fun b _ e => by have e2 : b = g := e; rw [e2]; rfl)
  obtain ⟨q, c1, k1, k2, k3, k4, k5⟩ := h3 i hi
  by_cases e : i = k
  · subst e
    rw [List.getElem_set_self]
    exact ⟨q, c1, by rw [List.getElem?_set_self (by omega)], by rw [List.getElem?_set_ne (by omega)]; exact k2, k3, k4, k5⟩
  · rw [List.getElem_set_ne (fun e2 => e e2.symm)]
    exact ⟨q, c1, by rw [List.getElem?_set_ne (by omega)]; exact k1, by rw [List.getElem?_set_ne (by omega)]; exact k2, k3, k4, k5⟩
theorem PlanOwn.setRecs {M g n c k cr : Nat} {W : World} {l : List Wk} {r : List Int} {qr : Option Addr} (h : PlanOwn M W (.slice (some ⟨g, 0, none⟩) n c) l) (hk : k < l.length) (hn : n = l.length)
    (hr : IntsAt W qr r) (hM : ∀ a, qr = some a → M ≤ a.block) (hg : ∀ a, qr = some a → a.block ≠ g) :
    PlanOwn M (W.setCell ⟨g, k * 2 + 1, none⟩ (.slice qr r.length cr)) (.slice (some ⟨g, 0, none⟩) n c) (l.set k ⟨l[k].needle, r⟩) := by
  obtain ⟨xs, h1, h2⟩ := h
  subst hn
  refine ⟨xs.set (k * 2 + 1) (.slice qr r.length cr), by rw [List.length_set]; exact ownsRow_setV h1, fun i hi => ?_⟩
  have hxs := h1.1
  rw [List.length_set] at hi
  have hF := (Fr.refl (fun b => b = g) W).set (o := k * 2 + 1) (u := .slice qr r.length cr) rfl
  have h3 := h2.fr (E := fun b => b = g) hF (fun b _ e => by have e2 : b = g := e; rw [e2]; rfl)
  obtain ⟨q, c1, k1, k2, k3, k4, k5⟩ := h3 i hi
  by_cases e : i = k
  · subst e
    rw [List.getElem_set_self]
    exact ⟨qr, cr, by rw [List.getElem?_set_ne (by omega)]; exact k1, by rw [List.getElem?_set_self (by omega)], hr.fr hF (fun a ha _ e2 => hg a ha e2), hM, fun a ha _ e2 => hg a ha (by have := Option.some.inj e2; exact this.symm)⟩
  · rw [List.getElem_set_ne (fun e2 => e e2.symm)]
    exact ⟨q, c1, by rw [List.getElem?_set_ne (by omega)]; exact k1, by rw [List.getElem?_set_ne (by omega)]; exact k2, k3, k4, k5⟩

theorem PlanOwn.base {M M' : Nat} {W : World} {v : Value} {l : List Wk} (h : PlanOwn M W v l) (hM : M' ≤ M) : PlanOwn M' W v l := by
  obtain ⟨xs, h1, h2⟩ := h
  refine ⟨xs, ownsRow_base h1 hM, fun i hi => ?_⟩
  obtain ⟨q, c, k1, k2, k3, k4, k5⟩ := h2 i hi
  exact ⟨q, c, k1, k2, k3, fun a ha => Nat.le_trans hM (k4 a ha), k5⟩

set_option maxRecDepth 20000 in
set_option maxHeartbeats 3200000 in
theorem with03 (v : Value) (X : Wr) (pp : Option Addr) (l : List Wk) (pc : Nat) (week what : Int) (w : World) (hv : WrV w v X) (hX : X.recs.length ≤ 4) (hl : l.length ≤ 40) (hr : ∀ x ∈ l, x.recs.length ≤ 40) (h : WksAt w pp l) :
    Calls Try.prog 34 #[v, .slice pp l.length pc, .agg #[.int .i64 week, .int .i64 what]] w (fun e w' => ∃ u, e = .returned u ∧ Ext w w' ∧ PlanOwn w.heap.size w' u (withL X.recs.length l week what)) := by
  obtain ⟨i0, hi, hz0, hz1, hz2⟩ := info_parts info_a
  obtain ⟨p, c, q, d, rfl, h1, h2⟩ := hv
  go_enter Try.func34, Try.ntmps34
  go_upto_region 1 with (fail)
  have hg0 := heap_new1 w (.cells (wrCells X p c q d) 25) (.cells #[.int .i64 week, .int .i64 what] 47)
  have hg1 := heap_new2 w (.cells (wrCells X p c q d) 25) (.cells #[.int .i64 week, .int .i64 what] 47)
  unfold wrCells at hg0 hg1
  obtain ⟨W, hW⟩ : ∃ W, W = (w.alloc (.cells #[.int .i64 X.weeks, .int .i64 X.price, .int .i64 X.age, .int .i64 X.step, .slice p X.rough.length c, .slice q X.recs.length d] 25)).alloc (.cells #[.int .i64 week, .int .i64 what] 47) := ⟨_, rfl⟩
  have hE : Ext w W := by rw [hW]; exact Ext.alloc (Ext.alloc (Ext.refl w) _) _
  rw [← hW] at hg0 hg1 ⊢
  have q5 := ExtW.cell (v := .slice q X.recs.length d) (cell_of_heap hg0 5)
  have m0 := ExtW.cell (v := .int .i64 week) (cell_of_heap hg1 0)
  have m1 := ExtW.cell (v := .int .i64 what) (cell_of_heap hg1 1)
  have HD := Lib.hid (CopyPlan03 pp l pc W (by omega) (fun x hx => by have := hr x hx; omega) (h.ext hE))
  have hsW : w.heap.size < W.heap.size := by have := (Array.getElem?_eq_some_iff.1 hg0).1; omega
  have HE := Lib.hid hE
  have HSW := Lib.hid hsW
  clear hW hE hg0 hg1 h h1 h2 hsW
  go_upto_region 2 with (go_at_call 18; refine HD.out.mono ?_; rintro e W1 ⟨u, rfl, hE1, hp⟩; obtain ⟨qp, cp, rfl, hk⟩ := hp.wks; clear hk)
  have HP := Lib.hid hp
  have HE1 := Lib.hid hE1
  have m0' : W1.cell? ⟨w.heap.size + 1, 0, none⟩ = some (.int .i64 week) := m0 ⟨W1, hE1⟩
  have m1' : W1.cell? ⟨w.heap.size + 1, 1, none⟩ = some (.int .i64 what) := m1 ⟨W1, hE1⟩
  have q5' : W1.cell? ⟨w.heap.size, 5, none⟩ = some (.slice q X.recs.length d) := q5 ⟨W1, hE1⟩
  clear hp hE1
  have HEW := Lib.hid (HE.out.trans HE1.out)
  by_cases hw0 : 0 ≤ week ∧ week < l.length
  case neg =>
    have hres : PlanOwn w.heap.size W1 (.slice qp l.length cp) (withL X.recs.length l week what) := by
      rw [withL, if_neg hw0]
      exact HP.out.base (by have := HSW.out; omega)
    have HRES := Lib.hid hres
    clear hres
    by_cases hneg : week < 0
    · clear hw0
      go_wp2
      go_ret
      exact ⟨_, rfl, HEW.out, HRES.out⟩
    · have hge : (l.length : Int) ≤ week := by omega
      clear hw0
      go_wp2
      go_ret
      exact ⟨_, rfl, HEW.out, HRES.out⟩
  obtain ⟨k, rfl⟩ : ∃ k : Nat, week = k := ⟨week.toNat, by omega⟩
  have hkl : k < l.length := by omega
  have hk0 : ¬((k : Int) < 0) := by omega
  have hkge : ¬((l.length : Int) ≤ (k : Int)) := by omega
  obtain ⟨xs, hown, hwks⟩ := id HP.out
  obtain ⟨qi, ci, x0, x1, hqi, hqM, hqr⟩ := hwks k hkl
  obtain ⟨g, cg, he, n0⟩ := ownsRow_cell hown (k * 2) (by omega)
  obtain ⟨g', cg', he', n1⟩ := ownsRow_cell hown (k * 2 + 1) (by omega)
  cases he
  cases he'
  rw [x0] at n0
  rw [x1] at n1
  have f0 := ownsRow_frozen (i := k * 2) hown
  have f1 := ownsRow_frozen (i := k * 2 + 1) hown
  have hgb := hown.lt g rfl
  have hw1 : withL X.recs.length l k what = if what < 0 then l.set k ⟨1, l[k].recs⟩ else l.set k ⟨l[k].needle, addTo l[k].recs what X.recs.length⟩ := by
    rw [withL, if_pos hw0, Int.toNat_natCast, wkAt_eq hkl]
  clear hw0 x0 x1 hwks hown
  by_cases hwh : what < 0
  · rw [if_pos hwh] at hw1
    have HW1 := Lib.hid hw1
    clear hw1
    go_wp2
    go_ret
    refine ⟨_, rfl, Ext.set HEW.out (by have := HSW.out; omega), ?_⟩
    rw [HW1.out]
    exact (PlanOwn.setNeedle HP.out hkl rfl).base (by have := HSW.out; omega)
  · rw [if_neg hwh] at hw1
    have HW1 := Lib.hid hw1
    have HQI := Lib.hid hqi
    have hrk := hr _ (List.getElem_mem hkl)
    have HN1 := Lib.hid n1
    have HF1 := Lib.hid f1
    have HGB := Lib.hid hgb
    clear hw1 hqi n0 f0 n1 f1 hgb hqM hqr q5' m0' m1'
    have u0 := ExtW.cell (m0 ⟨W1, HE1.out⟩)
    have u1 := ExtW.cell (m1 ⟨W1, HE1.out⟩)
    have u5 := ExtW.cell (q5 ⟨W1, HE1.out⟩)
    have n1 := ExtW.cell HN1.out
    simp only at u0 u1 u5
    clear m0 m1 q5
    obtain ⟨x0, hx0⟩ := ExtW.of (Ext.refl W1)
    conv => arg 5; rw [hx0]
    clear hx0
    go_wp2
    go_loopw [8, 9] (fun t i wr => ∃ j : Nat, j ≤ X.recs.length ∧ i = .int .i64 j ∧ ∃ x : ExtW W1, wr = x.w ∧ x.w.ownsRow W1.heap.size 3 1 t (addTo l[k].recs what j).length (intVs (addTo l[k].recs what j))) (fun _ i _ => X.recs.length - (intOf i).toNat)
    case atStart => exact ⟨0, by omega, rfl, x0, rfl, World.ownsRow_nil _ _ _ _⟩
    case round =>
      clear x0
      obtain ⟨j, hj, rfl, x, rfl, ho⟩ := hrel
      have HO := Lib.hid ho
      have hal := addTo_len l[k].recs what j
      clear ho
      by_cases hlt : j < X.recs.length
      · by_cases hjw : (j : Int) = what
        · have HT : Hid ((j : Int) = what ∨ (j : Int) ∈ l[k].recs) := Lib.hid (Or.inl hjw)
          have hjb : ((j : Int) == what) = true := by simpa using hjw
          clear hjw
          go_wp2_with (at_builtin; refine wpList_append_lies rfl (.tmp 53) (.tmp 55) 22 rfl W1.heap.size 3 i0 (.int .i64 0) 1 8 Try.underlying22 hi hz0 hz1 hz2 rfl (by decide) _ (addTo l[k].recs what j).length (intVs (addTo l[k].recs what j)) rfl (ownsRow_ext HO.out (by repeat (first | exact Ext.refl _ | refine Ext.alloc ?_ _ | refine Ext.drew ?_))) ⟨_, 0, none⟩ 1 1 [.int .i64 j] rfl rfl (hnewsE (by repeat (first | exact Ext.refl _ | refine Ext.drew ?_)) rfl) (one_int _) (by decide) (by unfold maxLen; omega) (by omega) (by rw [size_alloc]; have := Ext.size x.h; omega) ?_)
          intro g4 cap4 w4 hown4 hgr4 hat4
          have hE4 : Ext W1 w4 := Below.grown (Ext.alloc x.h _) hgr4 (by rw [size_alloc]; have := Ext.size x.h; omega) (fun i hi' => (HO.out.lt i hi').1)
          rw [← intVs_snoc] at hown4
          have HO4 := Lib.hid hown4
          have HE4 := Lib.hid hE4
          clear hown4 hgr4 hat4 hE4
          go_wp2
          go_roundw
          case rel => exact ⟨j + 1, by omega, by go_num, ⟨w4, HE4.out⟩, rfl, by
            rw [addTo, if_pos HT.out, List.length_append, List.length_singleton]
            exact HO4.out⟩
          case measure => simp [intOf]; omega
        · have hjb : ((j : Int) == what) = false := by simpa using hjw
          have hIN := In01 qi l[k].recs ci j x.w (by omega) (HQI.out.ext x.h)
          by_cases hin : (j : Int) ∈ l[k].recs
          · have HT : Hid ((j : Int) = what ∨ (j : Int) ∈ l[k].recs) := Lib.hid (Or.inr hin)
            have HIN := Lib.hid (ExtW.call2 (RetQ.e (RetQ.bt hin hIN)))
            clear hin hIN hjw
            go_wp2_with (first | (go_at_call 39; refine HIN.out.mono ?_; rintro e w' ⟨rfl, x2, rfl, hx2⟩) | (at_builtin; refine wpList_append_lies rfl (.tmp 53) (.tmp 55) 22 rfl W1.heap.size 3 i0 (.int .i64 0) 1 8 Try.underlying22 hi hz0 hz1 hz2 rfl (by decide) _ (addTo l[k].recs what j).length (intVs (addTo l[k].recs what j)) rfl (ownsRow_ext HO.out (by repeat (first | exact hx2 | refine Ext.alloc ?_ _ | refine Ext.drew ?_))) ⟨_, 0, none⟩ 1 1 [.int .i64 j] rfl rfl (hnewsE (by repeat (first | exact Ext.refl _ | refine Ext.drew ?_)) rfl) (one_int _) (by decide) (by unfold maxLen; omega) (by omega) (by rw [size_alloc]; have := Ext.size x2.h; omega) ?_))
            intro g4 cap4 w4 hown4 hgr4 hat4
            have hE4 : Ext W1 w4 := Below.grown (Ext.alloc x2.h _) hgr4 (by rw [size_alloc]; have := Ext.size x2.h; omega) (fun i hi' => (HO.out.lt i hi').1)
            rw [← intVs_snoc] at hown4
            have HO4 := Lib.hid hown4
            have HE4 := Lib.hid hE4
            clear hown4 hgr4 hat4 hE4
            go_wp2
            go_roundw
            case rel => exact ⟨j + 1, by omega, by go_num, ⟨w4, HE4.out⟩, rfl, by
              rw [addTo, if_pos HT.out, List.length_append, List.length_singleton]
              exact HO4.out⟩
            case measure => simp [intOf]; omega
          · have HT : Hid (¬((j : Int) = what ∨ (j : Int) ∈ l[k].recs)) := Lib.hid (fun h => h.elim hjw hin)
            have HIN := Lib.hid (ExtW.call2 (RetQ.e (RetQ.bf hin hIN)))
            clear hin hIN hjw
            go_wp2_with (go_at_call 39; refine HIN.out.mono ?_; rintro e w' ⟨rfl, x2, rfl, hx2⟩)
            go_roundw
            case rel => exact ⟨j + 1, by omega, by go_num, x2, rfl, by
              rw [addTo, if_neg HT.out]
              exact ownsRow_ext HO.out hx2⟩
            case measure => simp [intOf]; omega
      · obtain rfl : j = X.recs.length := by omega
        obtain ⟨A, hA⟩ : ∃ A, A = addTo l[k].recs what X.recs.length := ⟨_, rfl⟩
        have HAA := Lib.hid hA
        have hoA := HO.out
        rw [← hA] at hoA
        obtain ⟨qr, cr, rfl, hint, hq1⟩ : ∃ qr cr, _ = Value.slice qr A.length cr ∧ IntsAt x.w qr A ∧ ∀ a, qr = some a → W1.heap.size ≤ a.block := by
          obtain ⟨qr, cr, ht, hint⟩ := ownsRow_ints hoA
          exact ⟨qr, cr, ht, hint, fun a ha => by
            subst ha
            exact (hoA.lt a.block (by rw [ht]; rfl)).1⟩
        obtain ⟨xs2, hown2, -⟩ := HP.out.ext x.h
        have f1 := ownsRow_frozen (i := k * 2 + 1) hown2
        have HINT := Lib.hid hint
        have HQ1 := Lib.hid hq1
        clear hint hq1 hoA hA hown2 HO hlt hal
        go_wp2
        go_ret
        refine ⟨_, rfl, Ext.set (HEW.out.trans x.h) (by have := HSW.out; have := HGB.out; omega), ?_⟩
        rw [HW1.out, ← HAA.out]
        exact (PlanOwn.setRecs (HP.out.ext x.h) hkl rfl HINT.out (fun a ha => Nat.le_trans (Ext.size HE1.out) (HQ1.out a ha)) (fun a ha e => by have := HQ1.out a ha; have := HGB.out.2; omega)).base (by have := HSW.out; omega)
end Go.Proofs.Ytkcilgjkdiopnaa
