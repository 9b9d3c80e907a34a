/- What becomes of the age of the needle, and of a record that is never played. Plain law. The walks of isGood and with. The walk of with: a plan with one more replacement. What one more replacement does to a plan. Plain law. The least cost: of other prices, and of fewer weeks. Plain law. The walk of First: a box of the first weeks alone. The box of the first weeks: the same least cost. Plain law. A record that is replaced as late as it can be is replaced as seldom as can be. Plain. isKnown, and Last at a budget that is right. -/
import Derived.Test.YtkcilgjkdiopnaaVG
import Derived.Test.YtkcilgjkdiopnaaVH
import Derived.Test.YtkcilgjkdiopnaaVE
import Derived.Test.YtkcilgjkdiopnaaVF
import Derived.StillTailTactics
namespace Go.Proofs.Ytkcilgjkdiopnaa
open Go.RowKit

/-- the plays of the first n records in a week -/
def sumWk (X : Wr) (wk : Nat) : Nat → Int
  | 0 => 0
  | n + 1 => sumWk X wk n + playsW X wk n
/-- the age of the needle after k weeks -/
def wantTo (X : Wr) (l : List Wk) : Nat → Int
  | 0 => X.age
  | k + 1 => (if (wkAt l k).needle = 1 then 0 else wantTo X l k) + sumWk X k X.recs.length
/-- the plays of record i in k weeks -/
def playedTo (X : Wr) (i : Nat) : Nat → Int
  | 0 => 0
  | k + 1 => playedTo X i k + playsW X k i
/-- what a record is worn that is not played -/
def leftTo (X : Wr) (l : List Wk) (i : Nat) : Nat → Int
  | 0 => (recW X i).worn
  | k + 1 => if (i : Int) ∈ (wkAt l k).recs then 0 else leftTo X l i k

theorem sumWk_bd {X : Wr} (hX : ValidW X) (wk : Nat) : ∀ n : Nat, 0 ≤ sumWk X wk n ∧ sumWk X wk n ≤ 99 * n
  | 0 => by simp [sumWk]
  | n + 1 => by
    have := sumWk_bd hX wk n
    have := playsW_bd hX wk n
    simp only [sumWk]
    omega
theorem wantTo_bd {X : Wr} (hX : ValidW X) (l : List Wk) : ∀ k : Nat, 0 ≤ wantTo X l k ∧ wantTo X l k ≤ 9999 + 396 * k
  | 0 => by have := hX.age; simp only [wantTo]; omega
  | k + 1 => by
    have := wantTo_bd hX l k
    have := sumWk_bd hX k X.recs.length
    have := hX.recs
    simp only [wantTo]
    split <;> omega
theorem playedTo_bd {X : Wr} (hX : ValidW X) (i : Nat) : ∀ k : Nat, 0 ≤ playedTo X i k ∧ playedTo X i k ≤ 99 * k
  | 0 => by simp [playedTo]
  | k + 1 => by
    have := playedTo_bd hX i k
    have := playsW_bd hX k i
    simp only [playedTo]
    omega

theorem age_playsTo (X : Wr) (wk : Nat) (s : St) : ∀ n, (playsTo X wk s n).age = s.age + sumWk X wk n
  | 0 => by simp [playsTo, sumWk]
  | n + 1 => by
    rw [playsTo_succ, show (playW X wk (playsTo X wk s n) n).age = (playsTo X wk s n).age + playsW X wk n from rfl, age_playsTo X wk s n, sumWk]
    omega
theorem age_rep (X : Wr) (l : List Int) (s : St) : (l.foldl (repW X) s).age = s.age := by
  induction l generalizing s with
  | nil => rfl
  | cons a r ih => rw [List.foldl_cons, ih]; rfl
theorem age_run (X : Wr) (l : List Wk) : ∀ k, (runTo X l k).age = wantTo X l k
  | 0 => rfl
  | k + 1 => by
    rw [runTo, weekW, age_playsTo, age_rep, wantTo]
    unfold newW
    split
    · rfl
    · rw [age_run X l k]

theorem worn_playsTo (X : Wr) (wk i : Nat) (s : St) : ∀ n, (playsTo X wk s n).worn i = if i < n then s.worn i + grindW X (s.age + sumWk X wk i) (playsW X wk i).toNat else s.worn i
  | 0 => by simp [playsTo]
  | n + 1 => by
    rw [playsTo_succ]
    show updI (playsTo X wk s n).worn n _ i = _
    unfold updI
    by_cases e : i = n
    · subst e
      rw [if_pos rfl, if_pos (by omega), worn_playsTo X wk i s i, if_neg (by omega), age_playsTo]
    · rw [if_neg e, worn_playsTo X wk i s n]
      by_cases h : i < n
      · rw [if_pos h, if_pos (by omega)]
      · rw [if_neg h, if_neg (by omega)]
theorem worn_rep (X : Wr) (i : Nat) (l : List Int) (s : St) (h : ∀ n ∈ l, 0 ≤ n) : (l.foldl (repW X) s).worn i = if (i : Int) ∈ l then 0 else s.worn i := by
  induction l generalizing s with
  | nil => rfl
  | cons a r ih =>
    rw [List.foldl_cons, ih _ (fun n hn => h n (by simp [hn]))]
    have ha := h a (by simp)
    by_cases hr : (i : Int) ∈ r
    · rw [if_pos hr, if_pos (by simp [hr])]
    · rw [if_neg hr]
      show updI s.worn a.toNat 0 i = _
      unfold updI
      by_cases e : i = a.toNat
      · rw [if_pos e, if_pos (by rw [show (i : Int) = a by omega]; simp)]
      · rw [if_neg e, if_neg (by simp only [List.mem_cons, not_or]; exact ⟨by omega, hr⟩)]
theorem newW_worn (X : Wr) (p : Wk) (s : St) : (newW X p s).worn = s.worn := by unfold newW; split <;> rfl
theorem wk_pos {X : Wr} {l : List Wk} (hP : PlanOK X l) (k : Nat) : ∀ n ∈ (wkAt l k).recs, 0 ≤ n := by
  intro n hn
  by_cases h : k < l.length
  · rw [wkAt_eq h] at hn
    obtain ⟨i, hi, rfl⟩ := List.getElem_of_mem hn
    exact ((hP.2 _ (List.getElem_mem h)).1.1 i hi).1
  · have : wkAt l k = ⟨0, []⟩ := by simp [wkAt, List.getD, List.getElem?_eq_none (by omega : l.length ≤ k)]
    rw [this] at hn
    cases hn
theorem never_played {X : Wr} (hX : ValidW X) {l : List Wk} (hP : PlanOK X l) {i : Nat} (hi : i < X.recs.length) : ∀ k, playedTo X i k = 0 → (runTo X l k).worn i = leftTo X l i k
  | 0, _ => rfl
  | k + 1, h => by
    have h1 := playedTo_bd hX i k
    have h2 := playsW_bd hX k i
    simp only [playedTo] at h
    have ih := never_played hX hP hi k (by omega)
    have h3 : playsW X k i = 0 := by omega
    rw [runTo, weekW, worn_playsTo, if_pos hi, h3, worn_rep X i _ _ (wk_pos hP k), newW_worn, ih]
    simp [leftTo, grindW]
end Go.Proofs.Ytkcilgjkdiopnaa
namespace Go.Proofs.Ytkcilgjkdiopnaa
open Go.RowKit

theorem firstBad_lt (X : Wr) (l : List Wk) : firstBad X l < l.length ∧ -1 ≤ firstBad X l := by
  unfold firstBad
  cases h : (List.range l.length).find? (badAt X l) with
  | none => simp only; omega
  | some k =>
    have := List.mem_of_find?_eq_some h
    have := List.mem_range.1 this
    simp only
    omega

set_option maxHeartbeats 1600000 in
theorem isGood03 (v : Value) (X : Wr) (pp : Option Addr) (l : List Wk) (pc : Nat) (w : World) (hv : WrV w v X) (hX : ValidW X) (hP : PlanOK X l) (h : WksAt w pp l) :
    Calls Try.prog 35 #[v, .slice pp l.length pc] w (RetE (.tuple #[.bool (decide (firstBad X l < 0)), .bool true]) w) := by
  have hM := modest_valid hX
  have hlw : (l.length : Int) ≤ 6 := by have := hP.1; have := hX.weeks; omega
  have hrl : ∀ x ∈ l, x.recs.length ≤ 1000 := fun x hx => by
    have h1 := (hP.2 x hx).1
    have h4 := hX.recs
    apply Classical.byContradiction
    intro hn
    have h5 : ∀ i (hi : i < x.recs.length), (i : Int) ≤ x.recs[i] := by
      intro i
      induction i with
      | zero => intro hi; exact (h1.1 0 hi).1
      | succ j ih => intro hi; have := ih (by omega); have := h1.2 j hi; omega
    have := h5 5 (by omega)
    have := (h1.1 5 (by omega)).2
    omega
  have hC := fun w' (hw : Ext w w') => Copy03 v X w' (WrV.mono _ _ _ _ hw hv) (by have := hX.rough; omega) (by have := hX.recs; omega) (fun r hr => by obtain ⟨i, hi, rfl⟩ := List.getElem_of_mem hr; have := (hX.rc i hi).len; have := hX.weeks; omega)
  have hD := fun w' (hw : Ext w w') => CopyPlan03 pp l pc w' (by omega) hrl (h.ext hw)
  have hG := fun u q c w' (hu : WrV w' u X) (hq : WksAt w' q l) => Good03 u X q l c w' hu hM (by omega) (fun x hx => by have := hrl x hx; omega) hq
  rw [goodV_ok hX hP] at hG
  obtain ⟨p, c, q, d, rfl, h1, h2⟩ := hv
  have HC := Lib.hid hC
  have HD := Lib.hid hD
  have HG := Lib.hid hG
  obtain ⟨hb1, hb2⟩ := firstBad_lt X l
  obtain ⟨fb, hfb⟩ : ∃ fb, fb = firstBad X l := ⟨_, rfl⟩
  rw [← hfb] at hb1 hb2 HG ⊢
  clear hC hD hG h h1 h2 hM hX hP hrl hfb
  go_enter Try.func35, Try.ntmps35
  go_upto_region 1 with (fail)
  have hn := heap_new w (.cells (wrCells X p c q d) 25)
  unfold wrCells at hn
  obtain ⟨W, hW⟩ : ∃ W, W = w.alloc (.cells #[.int .i64 X.weeks, .int .i64 X.price, .int .i64 X.age, .int .i64 X.step, .slice p X.rough.length c, .slice q X.recs.length d] 25) := ⟨_, rfl⟩
  have hE : Ext w W := by rw [hW]; exact Ext.alloc (Ext.refl w) _
  rw [← hW] at hn ⊢
  have q0 := cell_of_heap hn 0
  have q1 := cell_of_heap hn 1
  have q2 := cell_of_heap hn 2
  have q3 := cell_of_heap hn 3
  have q4 := cell_of_heap hn 4
  have q5 := cell_of_heap hn 5
  simp at q0 q1 q2 q3 q4 q5
  have HE := Lib.hid hE
  clear hW hn hE
  go_upto_region 2 with (first
    | (go_at_call 17; refine (HC.out W HE.out).mono ?_; rintro e W1 ⟨u, rfl, hE1, hb⟩; have hu := hb.wr; have HU := Lib.hid hu; have HE1 := Lib.hid (HE.out.trans hE1); clear hu hb hE1)
    | (go_at_call 18; refine (HD.out W1 HE1.out).mono ?_; rintro e W2 ⟨u2, rfl, hE2, hp⟩; obtain ⟨q', c', rfl, hk⟩ := hp.wks; have HG2 := Lib.hid (HG.out u q' c' W2 (WrV.mono _ _ _ _ hE2 HU.out) hk); have HE2 := Lib.hid (HE1.out.trans hE2); clear hp hk hE2)
    | (go_at_call 23; refine HG2.out.mono ?_; rintro e W3 ⟨rfl, hE3⟩))
  by_cases h0 : fb < 0
  · have hd : decide (fb < 0) = true := by simpa using h0
    rw [hd]
    have hl2 : decide (fb < (l.length : Int)) = true := by simpa using hb1
    have HB1 := Lib.hid hb1
    clear hb1 hb2
    go_wp2
    go_ret2
    exact RetE.fin (HE2.out.trans hE3) (by have := HB1.out; simp_all)
  · have hd : decide (fb < 0) = false := by simpa using h0
    rw [hd]
    have hl2 : decide (fb < (l.length : Int)) = true := by simpa using hb1
    have HB1 := Lib.hid hb1
    clear hb1 hb2
    go_wp2
    go_ret2
    exact RetE.fin (HE2.out.trans hE3) (by have := HB1.out; simp_all)
end Go.Proofs.Ytkcilgjkdiopnaa
namespace Go.Proofs.Ytkcilgjkdiopnaa
open Go.RowKit

theorem ExtW.call2 {P : Program} {f : FuncId} {args : Array Value} {W : World} {x : ExtW W} {v : Value} (h : Calls P f args x.w (RetE v x.w)) : Calls P f args x.w fun e w'' => e = .returned v ∧ ∃ y : ExtW W, w'' = y.w ∧ Ext x.w y.w :=
  h.mono fun _ _ ⟨he, hE⟩ => ⟨he, ⟨_, x.h.trans hE⟩, rfl, hE⟩
/-- the numbers below n that are one number, or lie in a list -/
def addTo (rs : List Int) (what : Int) : Nat → List Int
  | 0 => []
  | i + 1 => if (i : Int) = what ∨ (i : Int) ∈ rs then addTo rs what i ++ [(i : Int)] else addTo rs what i
theorem addTo_len (rs : List Int) (what : Int) : ∀ n, (addTo rs what n).length ≤ n
  | 0 => by simp [addTo]
  | n + 1 => by
    have := addTo_len rs what n
    simp only [addTo]
    split
    · rw [List.length_append, List.length_singleton]; omega
    · omega
def withL (n : Nat) (l : List Wk) (week what : Int) : List Wk :=
  if 0 ≤ week ∧ week < l.length then (if what < 0 then l.set week.toNat ⟨1, (wkAt l week.toNat).recs⟩ else l.set week.toNat ⟨(wkAt l week.toNat).needle, addTo (wkAt l week.toNat).recs what n⟩) else l
theorem withL_len (n : Nat) (l : List Wk) (week what : Int) : (withL n l week what).length = l.length := by
  unfold withL
  split
  · split <;> simp
  · rfl

theorem PlanOwn.setNeedle {M g n c k : Nat} {W : World} {l : List Wk} {m : Int} (h : PlanOwn M W (.slice (some ⟨g, 0, none⟩) n c) l) (hk : k < l.length) (hn : n = l.length) :
    PlanOwn M (W.setCell ⟨g, k * 2, none⟩ (.int .i64 m)) (.slice (some ⟨g, 0, none⟩) n c) (l.set k ⟨m, l[k].recs⟩) := by
  obtain ⟨xs, h1, h2⟩ := h
  subst hn
  refine ⟨xs.set (k * 2) (.int .i64 m), by rw [List.length_set]; exact ownsRow_setV h1, fun i hi => ?_⟩
  have hxs := h1.1
  rw [List.length_set] at hi
  have h3 := h2.fr (E := fun b => b = g) ((Fr.refl (fun b => b = g) W).set (o := k * 2) (u := .int .i64 m) rfl) (fun b _ e => by have e2 : b = g := e; rw [e2]; rfl)
  obtain ⟨q, c1, k1, k2, k3, k4, k5⟩ := h3 i hi
  by_cases e : i = k
  · subst e
    rw [List.getElem_set_self]
    exact ⟨q, c1, by rw [List.getElem?_set_self (by omega)], by rw [List.getElem?_set_ne (by omega)]; exact k2, k3, k4, k5⟩
  · rw [List.getElem_set_ne (fun e2 => e e2.symm)]
    exact ⟨q, c1, by rw [List.getElem?_set_ne (by omega)]; exact k1, by rw [List.getElem?_set_ne (by omega)]; exact k2, k3, k4, k5⟩
theorem PlanOwn.setRecs {M g n c k cr : Nat} {W : World} {l : List Wk} {r : List Int} {qr : Option Addr} (h : PlanOwn M W (.slice (some ⟨g, 0, none⟩) n c) l) (hk : k < l.length) (hn : n = l.length)
    (hr : IntsAt W qr r) (hM : ∀ a, qr = some a → M ≤ a.block) (hg : ∀ a, qr = some a → a.block ≠ g) :
    PlanOwn M (W.setCell ⟨g, k * 2 + 1, none⟩ (.slice qr r.length cr)) (.slice (some ⟨g, 0, none⟩) n c) (l.set k ⟨l[k].needle, r⟩) := by
  obtain ⟨xs, h1, h2⟩ := h
  subst hn
  refine ⟨xs.set (k * 2 + 1) (.slice qr r.length cr), by rw [List.length_set]; exact ownsRow_setV h1, fun i hi => ?_⟩
  have hxs := h1.1
  rw [List.length_set] at hi
  have hF := (Fr.refl (fun b => b = g) W).set (o := k * 2 + 1) (u := .slice qr r.length cr) rfl
  have h3 := h2.fr (E := fun b => b = g) hF (fun b _ e => by have e2 : b = g := e; rw [e2]; rfl)
  obtain ⟨q, c1, k1, k2, k3, k4, k5⟩ := h3 i hi
  by_cases e : i = k
  · subst e
    rw [List.getElem_set_self]
    exact ⟨qr, cr, by rw [List.getElem?_set_ne (by omega)]; exact k1, by rw [List.getElem?_set_self (by omega)], hr.fr hF (fun a ha _ e2 => hg a ha e2), hM, fun a ha _ e2 => hg a ha (by have := Option.some.inj e2; exact this.symm)⟩
  · rw [List.getElem_set_ne (fun e2 => e e2.symm)]
    exact ⟨q, c1, by rw [List.getElem?_set_ne (by omega)]; exact k1, by rw [List.getElem?_set_ne (by omega)]; exact k2, k3, k4, k5⟩

theorem PlanOwn.base {M M' : Nat} {W : World} {v : Value} {l : List Wk} (h : PlanOwn M W v l) (hM : M' ≤ M) : PlanOwn M' W v l := by
  obtain ⟨xs, h1, h2⟩ := h
  refine ⟨xs, ownsRow_base h1 hM, fun i hi => ?_⟩
  obtain ⟨q, c, k1, k2, k3, k4, k5⟩ := h2 i hi
  exact ⟨q, c, k1, k2, k3, fun a ha => Nat.le_trans hM (k4 a ha), k5⟩

set_option maxRecDepth 20000 in
set_option maxHeartbeats 3200000 in
theorem with03 (v : Value) (X : Wr) (pp : Option Addr) (l : List Wk) (pc : Nat) (week what : Int) (w : World) (hv : WrV w v X) (hX : X.recs.length ≤ 4) (hl : l.length ≤ 40) (hr : ∀ x ∈ l, x.recs.length ≤ 40) (h : WksAt w pp l) :
    Calls Try.prog 34 #[v, .slice pp l.length pc, .agg #[.int .i64 week, .int .i64 what]] w (fun e w' => ∃ u, e = .returned u ∧ Ext w w' ∧ PlanOwn w.heap.size w' u (withL X.recs.length l week what)) := by
  obtain ⟨i0, hi, hz0, hz1, hz2⟩ := info_parts info_a
  obtain ⟨p, c, q, d, rfl, h1, h2⟩ := hv
  go_enter Try.func34, Try.ntmps34
  go_upto_region 1 with (fail)
  have hg0 := heap_new1 w (.cells (wrCells X p c q d) 25) (.cells #[.int .i64 week, .int .i64 what] 47)
  have hg1 := heap_new2 w (.cells (wrCells X p c q d) 25) (.cells #[.int .i64 week, .int .i64 what] 47)
  unfold wrCells at hg0 hg1
  obtain ⟨W, hW⟩ : ∃ W, W = (w.alloc (.cells #[.int .i64 X.weeks, .int .i64 X.price, .int .i64 X.age, .int .i64 X.step, .slice p X.rough.length c, .slice q X.recs.length d] 25)).alloc (.cells #[.int .i64 week, .int .i64 what] 47) := ⟨_, rfl⟩
  have hE : Ext w W := by rw [hW]; exact Ext.alloc (Ext.alloc (Ext.refl w) _) _
  rw [← hW] at hg0 hg1 ⊢
  have q5 := ExtW.cell (v := .slice q X.recs.length d) (cell_of_heap hg0 5)
  have m0 := ExtW.cell (v := .int .i64 week) (cell_of_heap hg1 0)
  have m1 := ExtW.cell (v := .int .i64 what) (cell_of_heap hg1 1)
  have HD := Lib.hid (CopyPlan03 pp l pc W (by omega) (fun x hx => by have := hr x hx; omega) (h.ext hE))
  have hsW : w.heap.size < W.heap.size := by have := (Array.getElem?_eq_some_iff.1 hg0).1; omega
  have HE := Lib.hid hE
  have HSW := Lib.hid hsW
  clear hW hE hg0 hg1 h h1 h2 hsW
  go_upto_region 2 with (go_at_call 18; refine HD.out.mono ?_; rintro e W1 ⟨u, rfl, hE1, hp⟩; obtain ⟨qp, cp, rfl, hk⟩ := hp.wks; clear hk)
  have HP := Lib.hid hp
  have HE1 := Lib.hid hE1
  have m0' : W1.cell? ⟨w.heap.size + 1, 0, none⟩ = some (.int .i64 week) := m0 ⟨W1, hE1⟩
  have m1' : W1.cell? ⟨w.heap.size + 1, 1, none⟩ = some (.int .i64 what) := m1 ⟨W1, hE1⟩
  have q5' : W1.cell? ⟨w.heap.size, 5, none⟩ = some (.slice q X.recs.length d) := q5 ⟨W1, hE1⟩
  clear hp hE1
  have HEW := Lib.hid (HE.out.trans HE1.out)
  by_cases hw0 : 0 ≤ week ∧ week < l.length
  case neg =>
    have hres : PlanOwn w.heap.size W1 (.slice qp l.length cp) (withL X.recs.length l week what) := by
      rw [withL, if_neg hw0]
      exact HP.out.base (by have := HSW.out; omega)
    have HRES := Lib.hid hres
    clear hres
    by_cases hneg : week < 0
    · clear hw0
      go_wp2
      go_ret
      exact ⟨_, rfl, HEW.out, HRES.out⟩
    · have hge : (l.length : Int) ≤ week := by omega
      clear hw0
      go_wp2
      go_ret
      exact ⟨_, rfl, HEW.out, HRES.out⟩
  obtain ⟨k, rfl⟩ : ∃ k : Nat, week = k := ⟨week.toNat, by omega⟩
  have hkl : k < l.length := by omega
  have hk0 : ¬((k : Int) < 0) := by omega
  have hkge : ¬((l.length : Int) ≤ (k : Int)) := by omega
  obtain ⟨xs, hown, hwks⟩ := id HP.out
  obtain ⟨qi, ci, x0, x1, hqi, hqM, hqr⟩ := hwks k hkl
  obtain ⟨g, cg, he, n0⟩ := ownsRow_cell hown (k * 2) (by omega)
  obtain ⟨g', cg', he', n1⟩ := ownsRow_cell hown (k * 2 + 1) (by omega)
  cases he
  cases he'
  rw [x0] at n0
  rw [x1] at n1
  have f0 := ownsRow_frozen (i := k * 2) hown
  have f1 := ownsRow_frozen (i := k * 2 + 1) hown
  have hgb := hown.lt g rfl
  have hw1 : withL X.recs.length l k what = if what < 0 then l.set k ⟨1, l[k].recs⟩ else l.set k ⟨l[k].needle, addTo l[k].recs what X.recs.length⟩ := by
    rw [withL, if_pos hw0, Int.toNat_natCast, wkAt_eq hkl]
  clear hw0 x0 x1 hwks hown
  by_cases hwh : what < 0
  · rw [if_pos hwh] at hw1
    have HW1 := Lib.hid hw1
    clear hw1
    go_wp2
    go_ret
    refine ⟨_, rfl, Ext.set HEW.out (by have := HSW.out; omega), ?_⟩
    rw [HW1.out]
    exact (PlanOwn.setNeedle HP.out hkl rfl).base (by have := HSW.out; omega)
  · rw [if_neg hwh] at hw1
    have HW1 := Lib.hid hw1
    have HQI := Lib.hid hqi
    have hrk := hr _ (List.getElem_mem hkl)
    have HN1 := Lib.hid n1
    have HF1 := Lib.hid f1
    have HGB := Lib.hid hgb
    clear hw1 hqi n0 f0 n1 f1 hgb hqM hqr q5' m0' m1'
    have u0 := ExtW.cell (m0 ⟨W1, HE1.out⟩)
    have u1 := ExtW.cell (m1 ⟨W1, HE1.out⟩)
    have u5 := ExtW.cell (q5 ⟨W1, HE1.out⟩)
    have n1 := ExtW.cell HN1.out
    simp only at u0 u1 u5
    clear m0 m1 q5
    obtain ⟨x0, hx0⟩ := ExtW.of (Ext.refl W1)
    conv => arg 5; rw [hx0]
    clear hx0
    go_wp2
    go_loopw [8, 9] (fun t i wr => ∃ j : Nat, j ≤ X.recs.length ∧ i = .int .i64 j ∧ ∃ x : ExtW W1, wr = x.w ∧ x.w.ownsRow W1.heap.size 3 1 t (addTo l[k].recs what j).length (intVs (addTo l[k].recs what j))) (fun _ i _ => X.recs.length - (intOf i).toNat)
    case atStart => exact ⟨0, by omega, rfl, x0, rfl, World.ownsRow_nil _ _ _ _⟩
    case round =>
      clear x0
      obtain ⟨j, hj, rfl, x, rfl, ho⟩ := hrel
      have HO := Lib.hid ho
      have hal := addTo_len l[k].recs what j
      clear ho
      by_cases hlt : j < X.recs.length
      · by_cases hjw : (j : Int) = what
        · have HT : Hid ((j : Int) = what ∨ (j : Int) ∈ l[k].recs) := Lib.hid (Or.inl hjw)
          have hjb : ((j : Int) == what) = true := by simpa using hjw
          clear hjw
          go_wp2_with (at_builtin; refine wpList_append_lies rfl (.tmp 53) (.tmp 55) 22 rfl W1.heap.size 3 i0 (.int .i64 0) 1 8 Try.underlying22 hi hz0 hz1 hz2 rfl (by decide) _ (addTo l[k].recs what j).length (intVs (addTo l[k].recs what j)) rfl (ownsRow_ext HO.out (by repeat (first | exact Ext.refl _ | refine Ext.alloc ?_ _ | refine Ext.drew ?_))) ⟨_, 0, none⟩ 1 1 [.int .i64 j] rfl rfl (hnewsE (by repeat (first | exact Ext.refl _ | refine Ext.drew ?_)) rfl) (one_int _) (by decide) (by unfold maxLen; omega) (by omega) (by rw [size_alloc]; have := Ext.size x.h; omega) ?_)
          intro g4 cap4 w4 hown4 hgr4 hat4
          have hE4 : Ext W1 w4 := Below.grown (Ext.alloc x.h _) hgr4 (by rw [size_alloc]; have := Ext.size x.h; omega) (fun i hi' => (HO.out.lt i hi').1)
          rw [← intVs_snoc] at hown4
          have HO4 := Lib.hid hown4
          have HE4 := Lib.hid hE4
          clear hown4 hgr4 hat4 hE4
          go_wp2
          go_roundw
          case rel => exact ⟨j + 1, by omega, by go_num, ⟨w4, HE4.out⟩, rfl, by
            rw [addTo, if_pos HT.out, List.length_append, List.length_singleton]
            exact HO4.out⟩
          case measure => simp [intOf]; omega
        · have hjb : ((j : Int) == what) = false := by simpa using hjw
          have hIN := In01 qi l[k].recs ci j x.w (by omega) (HQI.out.ext x.h)
          by_cases hin : (j : Int) ∈ l[k].recs
          · have HT : Hid ((j : Int) = what ∨ (j : Int) ∈ l[k].recs) := Lib.hid (Or.inr hin)
            have HIN := Lib.hid (ExtW.call2 (RetQ.e (RetQ.bt hin hIN)))
            clear hin hIN hjw
            go_wp2_with (first | (go_at_call 39; refine HIN.out.mono ?_; rintro e w' ⟨rfl, x2, rfl, hx2⟩) | (at_builtin; refine wpList_append_lies rfl (.tmp 53) (.tmp 55) 22 rfl W1.heap.size 3 i0 (.int .i64 0) 1 8 Try.underlying22 hi hz0 hz1 hz2 rfl (by decide) _ (addTo l[k].recs what j).length (intVs (addTo l[k].recs what j)) rfl (ownsRow_ext HO.out (by repeat (first | exact hx2 | refine Ext.alloc ?_ _ | refine Ext.drew ?_))) ⟨_, 0, none⟩ 1 1 [.int .i64 j] rfl rfl (hnewsE (by repeat (first | exact Ext.refl _ | refine Ext.drew ?_)) rfl) (one_int _) (by decide) (by unfold maxLen; omega) (by omega) (by rw [size_alloc]; have := Ext.size x2.h; omega) ?_))
            intro g4 cap4 w4 hown4 hgr4 hat4
            have hE4 : Ext W1 w4 := Below.grown (Ext.alloc x2.h _) hgr4 (by rw [size_alloc]; have := Ext.size x2.h; omega) (fun i hi' => (HO.out.lt i hi').1)
            rw [← intVs_snoc] at hown4
            have HO4 := Lib.hid hown4
            have HE4 := Lib.hid hE4
            clear hown4 hgr4 hat4 hE4
            go_wp2
            go_roundw
            case rel => exact ⟨j + 1, by omega, by go_num, ⟨w4, HE4.out⟩, rfl, by
              rw [addTo, if_pos HT.out, List.length_append, List.length_singleton]
              exact HO4.out⟩
            case measure => simp [intOf]; omega
          · have HT : Hid (¬((j : Int) = what ∨ (j : Int) ∈ l[k].recs)) := Lib.hid (fun h => h.elim hjw hin)
            have HIN := Lib.hid (ExtW.call2 (RetQ.e (RetQ.bf hin hIN)))
            clear hin hIN hjw
            go_wp2_with (go_at_call 39; refine HIN.out.mono ?_; rintro e w' ⟨rfl, x2, rfl, hx2⟩)
            go_roundw
            case rel => exact ⟨j + 1, by omega, by go_num, x2, rfl, by
              rw [addTo, if_neg HT.out]
              exact ownsRow_ext HO.out hx2⟩
            case measure => simp [intOf]; omega
      · obtain rfl : j = X.recs.length := by omega
        obtain ⟨A, hA⟩ : ∃ A, A = addTo l[k].recs what X.recs.length := ⟨_, rfl⟩
        have HAA := Lib.hid hA
        have hoA := HO.out
        rw [← hA] at hoA
        obtain ⟨qr, cr, rfl, hint, hq1⟩ : ∃ qr cr, _ = Value.slice qr A.length cr ∧ IntsAt x.w qr A ∧ ∀ a, qr = some a → W1.heap.size ≤ a.block := by
          obtain ⟨qr, cr, ht, hint⟩ := ownsRow_ints hoA
          exact ⟨qr, cr, ht, hint, fun a ha => by
            subst ha
            exact (hoA.lt a.block (by rw [ht]; rfl)).1⟩
        obtain ⟨xs2, hown2, -⟩ := HP.out.ext x.h
        have f1 := ownsRow_frozen (i := k * 2 + 1) hown2
        have HINT := Lib.hid hint
        have HQ1 := Lib.hid hq1
        clear hint hq1 hoA hA hown2 HO hlt hal
        go_wp2
        go_ret
        refine ⟨_, rfl, Ext.set (HEW.out.trans x.h) (by have := HSW.out; have := HGB.out; omega), ?_⟩
        rw [HW1.out, ← HAA.out]
        exact (PlanOwn.setRecs (HP.out.ext x.h) hkl rfl HINT.out (fun a ha => Nat.le_trans (Ext.size HE1.out) (HQ1.out a ha)) (fun a ha e => by have := HQ1.out a ha; have := HGB.out.2; omega)).base (by have := HSW.out; omega)
end Go.Proofs.Ytkcilgjkdiopnaa
namespace Go.Proofs.Ytkcilgjkdiopnaa
open Go.RowKit

theorem roughW_mono {X : Wr} (hX : ValidW X) {a b : Int} (ha : 0 ≤ a) (hab : a ≤ b) : roughW X a ≤ roughW X b := by
  rw [roughW_eq hX ha, roughW_eq hX (by omega)]
  have hs := hX.step
  have hd : a / X.step ≤ b / X.step := Int.ediv_le_ediv (by omega) hab
  have h0 : 0 ≤ a / X.step := Int.ediv_nonneg ha (by omega)
  have hi : roughI X a ≤ roughI X b := by unfold roughI; omega
  have hl := roughI_lt hX (a := b) (by omega)
  have key : ∀ n i (h : i + n < X.rough.length), X.rough[i]'(by omega) ≤ X.rough[i + n] := by
    intro n
    induction n with
    | zero => intro i h; exact Int.le_refl _
    | succ n ih =>
      intro i h
      have h1 := ih i (by omega)
      have h2 := hX.up (i + n) (by omega)
      simp only [show i + (n + 1) = i + n + 1 from by omega]
      omega
  have h5 := key (roughI X b - roughI X a) (roughI X a) (by omega)
  simp only [show roughI X a + (roughI X b - roughI X a) = roughI X b from by omega] at h5
  exact h5
theorem grindW_mono {X : Wr} (hX : ValidW X) {a b : Int} (ha : 0 ≤ a) (hab : a ≤ b) : ∀ n, grindW X a n ≤ grindW X b n
  | 0 => Int.le_refl _
  | n + 1 => by
    have := grindW_mono hX ha hab n
    have := roughW_mono hX (a := a + n) (b := b + n) (by omega) (by omega)
    simp only [grindW]
    omega

/-- the prices of some records -/
def sumPr (X : Wr) : List Int → Int
  | [] => 0
  | n :: r => (recW X n.toNat).price + sumPr X r
theorem sumPr_snoc (X : Wr) (l : List Int) (n : Int) : sumPr X (l ++ [n]) = sumPr X l + (recW X n.toNat).price := by
  induction l with
  | nil => simp [sumPr]
  | cons a r ih => rw [List.cons_append, sumPr, ih, sumPr]; omega
theorem cost_rep (X : Wr) (l : List Int) (s : St) : (l.foldl (repW X) s).cost = s.cost + sumPr X l := by
  induction l generalizing s with
  | nil => simp [sumPr]
  | cons a r ih => rw [List.foldl_cons, ih, sumPr]; simp only [repW]; omega
theorem cost_playsTo (X : Wr) (wk : Nat) (s : St) : ∀ n, (playsTo X wk s n).cost = s.cost
  | 0 => rfl
  | n + 1 => by rw [playsTo_succ]; exact cost_playsTo X wk s n
/-- the prices of those records below n that lie in a list, or are one number -/
def sumIn (X : Wr) (rs : List Int) (what : Int) : Nat → Int
  | 0 => 0
  | i + 1 => sumIn X rs what i + if (i : Int) = what ∨ (i : Int) ∈ rs then (recW X i).price else 0
theorem sumPr_addTo (X : Wr) (rs : List Int) (what : Int) : ∀ n, sumPr X (addTo rs what n) = sumIn X rs what n
  | 0 => rfl
  | n + 1 => by
    rw [addTo, sumIn]
    split
    · rw [sumPr_snoc, sumPr_addTo X rs what n, Int.toNat_natCast]
    · rw [sumPr_addTo X rs what n]; omega
theorem sumIn_cons (X : Wr) (a : Int) (r : List Int) (h : a ∉ r) (ha : 0 ≤ a) : ∀ n, sumIn X (a :: r) (-1) n = sumIn X r (-1) n + if a < n then (recW X a.toNat).price else 0
  | 0 => by simp only [sumIn]; rw [if_neg (by omega)]; omega
  | n + 1 => by
    have ih := sumIn_cons X a r h ha n
    have hn1 : ¬(n : Int) = -1 := by omega
    have hc1 : ((n : Int) = -1 ∨ (n : Int) ∈ a :: r) ↔ ((n : Int) = a ∨ (n : Int) ∈ r) := by
      rw [List.mem_cons]
      exact ⟨fun h => h.elim (fun h => absurd h hn1) (fun h => h), Or.inr⟩
    have hc2 : ((n : Int) = -1 ∨ (n : Int) ∈ r) ↔ (n : Int) ∈ r := ⟨fun h => h.elim (fun h => absurd h hn1) (fun h => h), Or.inr⟩
    simp only [sumIn, ih, hc1, hc2]
    by_cases e : (n : Int) = a
    · subst e
      rw [if_neg (by omega), if_pos (Or.inl rfl), if_neg h, if_pos (by omega), Int.toNat_natCast]
    · have hc3 : ((n : Int) = a ∨ (n : Int) ∈ r) ↔ (n : Int) ∈ r := ⟨fun h => h.elim (fun h => absurd h e) (fun h => h), Or.inr⟩
      simp only [hc3]
      by_cases e3 : a < (n : Int)
      · rw [if_pos e3, if_pos (show a < ((n + 1 : Nat) : Int) by omega)]; omega
      · rw [if_neg e3, if_neg (show ¬a < ((n + 1 : Nat) : Int) by omega)]; omega
theorem Rises.tail {a : Int} {r : List Int} {lo hi : Int} (h : Rises (a :: r) lo hi) : Rises r lo hi ∧ (∀ x ∈ r, a < x) ∧ lo ≤ a ∧ a ≤ hi := by
  refine ⟨⟨fun i hi' => h.1 (i + 1) (by simpa using hi'), fun i hi' => h.2 (i + 1) (by simpa using hi')⟩, fun x hx => ?_, h.1 0 (by simp)⟩
  obtain ⟨i, hi', rfl⟩ := List.getElem_of_mem hx
  induction i with
  | zero => exact h.2 0 (by simpa using hi')
  | succ j ih =>
    have h1 := ih (by omega) (List.getElem_mem _)
    have h2 : r[j] < r[j + 1] := h.2 (j + 1) (by simpa using hi')
    omega
theorem sumPr_rises (X : Wr) (n : Nat) (rs : List Int) (h : Rises rs 0 ((n : Int) - 1)) : sumPr X rs = sumIn X rs (-1) n := by
  induction rs with
  | nil =>
    have : ∀ m : Nat, sumIn X [] (-1) m = 0 := by
      intro m
      induction m with
      | zero => rfl
      | succ m ih => rw [sumIn, ih, if_neg (by rintro (h1 | h1); omega; cases h1)]; omega
    rw [this n]
    rfl
  | cons a r ih =>
    obtain ⟨h1, h2, h3, h4⟩ := h.tail
    rw [sumPr, ih h1, sumIn_cons X a r (fun hm => by have := h2 a hm; omega) h3, if_pos (by omega)]
    omega
theorem sumIn_mono {X : Wr} (hX : ValidW X) (rs : List Int) (what : Int) : ∀ n, sumIn X rs (-1) n ≤ sumIn X rs what n
  | 0 => Int.le_refl _
  | n + 1 => by
    have ih := sumIn_mono hX rs what n
    have hb := (rec_bd hX n).2.2
    have hb2 : 0 ≤ (recW X n).price := (rec_bd hX n).1
    simp only [sumIn]
    by_cases e : (n : Int) ∈ rs
    · rw [if_pos (Or.inr e), if_pos (Or.inr e)]; omega
    · rw [if_neg (by rintro (h1 | h1); omega; exact e h1)]
      split <;> omega

/-- a state that is worn no more, and has cost no less -/
structure LeSt (s' s : St) : Prop where
  age : 0 ≤ s'.age ∧ s'.age ≤ s.age
  worn : ∀ i, s'.worn i ≤ s.worn i
  cost : s.cost ≤ s'.cost
/-- a week in which nothing less is replaced -/
structure GeWk (X : Wr) (p' p : Wk) : Prop where
  needle : p.needle = 1 → p'.needle = 1
  recs : ∀ n ∈ p.recs, n ∈ p'.recs
  pos : ∀ n ∈ p'.recs, 0 ≤ n
  cost : sumPr X p.recs ≤ sumPr X p'.recs
theorem GeWk.refl (X : Wr) (p : Wk) (h : ∀ n ∈ p.recs, 0 ≤ n) : GeWk X p p := ⟨fun h => h, fun _ h => h, h, Int.le_refl _⟩
theorem le_week {X : Wr} (hX : ValidW X) {s' s : St} (wk : Nat) {p' p : Wk} (h : LeSt s' s) (hw : ∀ i, 0 ≤ s.worn i) (hp : GeWk X p' p) : LeSt (weekW X s' wk p') (weekW X s wk p) := by
  have hpr : 0 ≤ X.price := hX.price.1
  have hna : 0 ≤ (newW X p' s').age ∧ (newW X p' s').age ≤ (newW X p s).age := by
    unfold newW
    by_cases e : p'.needle = 1
    · rw [if_pos e]
      refine ⟨Int.le_refl _, ?_⟩
      split
      · exact Int.le_refl _
      · have := h.age; show (0 : Int) ≤ s.age; omega
    · rw [if_neg e, if_neg (fun h1 => e (hp.needle h1))]
      exact h.age
  have hnc : (newW X p s).cost ≤ (newW X p' s').cost := by
    have := h.cost
    unfold newW
    by_cases e : p.needle = 1
    · rw [if_pos e, if_pos (hp.needle e)]
      show s.cost + X.price ≤ s'.cost + X.price
      omega
    · rw [if_neg e]
      split
      · show s.cost ≤ s'.cost + X.price; omega
      · exact this
  refine ⟨?_, fun i => ?_, ?_⟩
  · unfold weekW
    rw [age_playsTo, age_playsTo, age_rep, age_rep]
    have := (sumWk_bd hX wk X.recs.length).1
    omega
  · unfold weekW
    rw [worn_playsTo, worn_playsTo, age_rep, age_rep, worn_rep X i _ _ hp.pos, worn_rep X i _ _ (fun n hn => hp.pos n (hp.recs n hn)), newW_worn, newW_worn]
    have hgm := grindW_mono hX (a := (newW X p' s').age + sumWk X wk i) (b := (newW X p s).age + sumWk X wk i) (by have := (sumWk_bd hX wk i).1; omega) (by omega) (playsW X wk i).toNat
    have hwi := h.worn i
    have hwp := hw i
    by_cases e : (i : Int) ∈ p'.recs
    · rw [if_pos e]
      by_cases e2 : (i : Int) ∈ p.recs
      · rw [if_pos e2]; split <;> omega
      · rw [if_neg e2]; split <;> omega
    · rw [if_neg e, if_neg (fun h1 => e (hp.recs _ h1))]
      split <;> omega
  · unfold weekW
    rw [cost_playsTo, cost_playsTo, cost_rep, cost_rep]
    have := hp.cost
    omega
theorem worn_pos {X : Wr} (hX : ValidW X) {l : List Wk} (hP : PlanOK X l) : ∀ k i, 0 ≤ (runTo X l k).worn i ∧ 0 ≤ (runTo X l k).age
  | 0, i => ⟨by
      show 0 ≤ (recW X i).worn
      by_cases h : i < X.recs.length
      · rw [recW_eq h]; exact (hX.rc i h).worn.1
      · have : recW X i = noRec := by simp [recW, List.getD, List.getElem?_eq_none (by omega : X.recs.length ≤ i)]
        rw [this]; exact Int.le_refl _, hX.age.1⟩
  | k + 1, i => by
    have ih := worn_pos hX hP k
    have hag : 0 ≤ (runTo X l (k + 1)).age := by rw [age_run]; exact (wantTo_bd hX l (k + 1)).1
    have hna : 0 ≤ (newW X (wkAt l k) (runTo X l k)).age := by
      unfold newW
      split
      · exact Int.le_refl _
      · exact (ih 0).2
    refine ⟨?_, hag⟩
    rw [runTo, weekW, worn_playsTo, worn_rep X i _ _ (wk_pos hP k), newW_worn, age_rep]
    have h1 := (ih i).1
    have h2 := (grindW_bd hX (a := (newW X (wkAt l k) (runTo X l k)).age + sumWk X k i) (by have := (sumWk_bd hX k i).1; omega) (playsW X k i).toNat).1
    split <;> split <;> omega
theorem le_run {X : Wr} (hX : ValidW X) {l l' : List Wk} (hP : PlanOK X l) (h : ∀ k, GeWk X (wkAt l' k) (wkAt l k)) : ∀ k, LeSt (runTo X l' k) (runTo X l k)
  | 0 => ⟨⟨hX.age.1, Int.le_refl _⟩, fun _ => Int.le_refl _, Int.le_refl _⟩
  | k + 1 => le_week hX k (le_run hX hP h k) (fun i => (worn_pos hX hP k i).1) (h k)

theorem addTo_mem (rs : List Int) (what x : Int) : ∀ n, x ∈ addTo rs what n ↔ (0 ≤ x ∧ x < n) ∧ (x = what ∨ x ∈ rs)
  | 0 => by simp only [addTo, List.not_mem_nil, false_iff]; omega
  | n + 1 => by
    have ih := addTo_mem rs what x n
    rw [addTo]
    split
    · next h =>
      rw [List.mem_append, ih, List.mem_singleton]
      constructor
      · rintro (⟨h1, h2⟩ | rfl)
        · exact ⟨by omega, h2⟩
        · exact ⟨by omega, h⟩
      · rintro ⟨h1, h2⟩
        by_cases e : x = n
        · exact Or.inr e
        · exact Or.inl ⟨by omega, h2⟩
    · next h =>
      rw [ih]
      constructor
      · rintro ⟨h1, h2⟩; exact ⟨by omega, h2⟩
      · rintro ⟨h1, h2⟩
        refine ⟨⟨h1.1, ?_⟩, h2⟩
        apply Classical.byContradiction
        intro hn
        have e : x = n := by omega
        rw [e] at h2
        exact h h2
theorem Rises.put {l : List Int} {lo hi m : Int} (h : Rises l lo hi) (h1 : lo ≤ m) (h2 : m ≤ hi) (h3 : ∀ x ∈ l, x < m) : Rises (l ++ [m]) lo hi := by
  refine ⟨fun i hi' => ?_, fun i hi' => ?_⟩
  · rw [List.length_append, List.length_singleton] at hi'
    by_cases e : i < l.length
    · rw [List.getElem_append_left e]; exact h.1 i e
    · obtain rfl : i = l.length := by omega
      simp; exact ⟨h1, h2⟩
  · rw [List.length_append, List.length_singleton] at hi'
    by_cases e : i + 1 < l.length
    · rw [List.getElem_append_left e, List.getElem_append_left (by omega)]; exact h.2 i e
    · obtain e2 : i + 1 = l.length := by omega
      rw [List.getElem_append_left (by omega : i < l.length)]
      simp only [e2]
      simp
      exact h3 _ (List.getElem_mem _)
theorem addTo_rises (rs : List Int) (what hi : Int) : ∀ n : Nat, (n : Int) - 1 ≤ hi → Rises (addTo rs what n) 0 hi
  | 0, _ => Rises.nil _ _
  | n + 1, h => by
    have ih := addTo_rises rs what hi n (by omega)
    rw [addTo]
    split
    · exact ih.put (by omega) (by omega) (fun x hx => by have := (addTo_mem rs what x n).1 hx; omega)
    · exact ih

theorem with_wk {X : Wr} {l : List Wk} (week what : Int) (k : Nat) : wkAt (withL X.recs.length l week what) k = wkAt l k ∨
    (k < l.length ∧ what < 0 ∧ wkAt (withL X.recs.length l week what) k = ⟨1, (wkAt l k).recs⟩) ∨ (k < l.length ∧ ¬what < 0 ∧ wkAt (withL X.recs.length l week what) k = ⟨(wkAt l k).needle, addTo (wkAt l k).recs what X.recs.length⟩) := by
  unfold withL
  by_cases hw : 0 ≤ week ∧ week < l.length
  · rw [if_pos hw]
    obtain ⟨j, rfl⟩ : ∃ j : Nat, week = j := ⟨week.toNat, by omega⟩
    rw [Int.toNat_natCast]
    have hj : j < l.length := by omega
    have hset : ∀ x : Wk, wkAt (l.set j x) k = if k = j then x else wkAt l k := by
      intro x
      unfold wkAt
      simp only [List.getD_eq_getElem?_getD, List.getElem?_set]
      by_cases e : k = j
      · subst e; simp [hj]
      · rw [if_neg (fun e2 => e e2.symm), if_neg e]
    by_cases hwh : what < 0
    · rw [if_pos hwh, hset]
      by_cases e : k = j
      · subst e; rw [if_pos rfl]; exact Or.inr (Or.inl ⟨hj, hwh, rfl⟩)
      · rw [if_neg e]; exact Or.inl rfl
    · rw [if_neg hwh, hset]
      by_cases e : k = j
      · subst e; rw [if_pos rfl]; exact Or.inr (Or.inr ⟨hj, hwh, rfl⟩)
      · rw [if_neg e]; exact Or.inl rfl
  · rw [if_neg hw]; exact Or.inl rfl
theorem week_ok {X : Wr} {l : List Wk} (hP : PlanOK X l) {k : Nat} (h : k < l.length) : WeekOK X.recs.length (wkAt l k) := by rw [wkAt_eq h]; exact hP.2 _ (List.getElem_mem h)
theorem with_ok {X : Wr} {l : List Wk} (hP : PlanOK X l) (week what : Int) : PlanOK X (withL X.recs.length l week what) := by
  refine ⟨by rw [withL_len]; exact hP.1, fun x hx => ?_⟩
  obtain ⟨k, hk, rfl⟩ := List.getElem_of_mem hx
  have hkl : k < l.length := by rwa [withL_len] at hk
  have ho := week_ok hP hkl
  rw [← wkAt_eq hk]
  rcases with_wk (X := X) (l := l) week what k with h | ⟨-, -, h⟩ | ⟨-, -, h⟩
  · rw [h]; exact ho
  · rw [h]; exact ⟨ho.1, by simp, by simp⟩
  · rw [h]; exact ⟨addTo_rises _ _ _ _ (Int.le_refl _), ho.2⟩
theorem with_ge {X : Wr} (hX : ValidW X) {l : List Wk} (hP : PlanOK X l) (week what : Int) (k : Nat) : GeWk X (wkAt (withL X.recs.length l week what) k) (wkAt l k) := by
  rcases with_wk (X := X) (l := l) week what k with h | ⟨-, -, h⟩ | ⟨hk, -, h⟩
  · rw [h]; exact GeWk.refl X _ (wk_pos hP k)
  · rw [h]; exact ⟨fun _ => rfl, fun _ h => h, wk_pos hP k, Int.le_refl _⟩
  · rw [h]
    have ho := (week_ok hP hk).1
    refine ⟨fun h => h, fun n hn => ?_, fun n hn => ?_, ?_⟩
    · refine (addTo_mem _ _ _ _).2 ⟨?_, Or.inr hn⟩
      obtain ⟨i, hi, rfl⟩ := List.getElem_of_mem hn
      have := ho.1 i hi
      omega
    · exact ((addTo_mem _ _ _ _).1 hn).1.1
    · show sumPr X (wkAt l k).recs ≤ sumPr X (addTo (wkAt l k).recs what X.recs.length)
      rw [sumPr_rises X X.recs.length _ ho, sumPr_addTo]
      exact sumIn_mono hX _ _ _
theorem firstBad_neg {X : Wr} {l : List Wk} : firstBad X l < 0 ↔ ∀ k, k < l.length → ∀ i, i < X.recs.length → (runTo X l (k + 1)).worn i ≤ (recW X i).limit := by
  unfold firstBad
  cases h : (List.range l.length).find? (badAt X l) with
  | none =>
    have h2 := List.find?_eq_none.1 h
    refine ⟨fun _ k hk i hi => ?_, fun _ => by simp only; omega⟩
    have := h2 k (List.mem_range.2 hk)
    simp [badAt] at this
    exact this i hi
  | some k =>
    have h1 := List.find?_some h
    have h2 := List.mem_range.1 (List.mem_of_find?_eq_some h)
    simp only
    refine ⟨fun h => by omega, fun hall => ?_⟩
    simp [badAt] at h1
    obtain ⟨i, hi, hb⟩ := h1
    have := hall k h2 i hi
    omega
theorem good_mono {X : Wr} {l l' : List Wk} (hl : l'.length = l.length) (h : ∀ k, LeSt (runTo X l' k) (runTo X l k)) (hg : firstBad X l < 0) : firstBad X l' < 0 := by
  rw [firstBad_neg] at hg ⊢
  intro k hk i hi
  have := hg k (by omega) i hi
  have := (h (k + 1)).worn i
  omega
end Go.Proofs.Ytkcilgjkdiopnaa
namespace Go.Proofs.Ytkcilgjkdiopnaa
open Go.RowKit

/-! the least of a list -/
def minOf (f : Ch → Int) (l : List Ch) : Option Int := (leastL f l).map f
theorem leastL_spec (f : Ch → Int) : ∀ (l : List Ch) (b : Option Ch), (∀ c, l.foldl (leastS f) b = some c → (c ∈ l ∨ b = some c) ∧ (∀ d ∈ l, f c ≤ f d) ∧ ∀ d, b = some d → f c ≤ f d)
  | [], b, c, h => ⟨Or.inr h, by simp, fun d hd => by rw [List.foldl_nil] at h; rw [h] at hd; cases hd; exact Int.le_refl _⟩
  | x :: r, b, c, h => by
    rw [List.foldl_cons] at h
    obtain ⟨h1, h2, h3⟩ := leastL_spec f r (leastS f b x) c h
    cases hb : b with
    | none =>
      rw [hb] at h1 h3
      simp only [leastS] at h1 h3
      refine ⟨Or.inl ?_, fun d hd => ?_, fun d hd => by cases hd⟩
      · rcases h1 with h1 | h1
        · exact List.mem_cons_of_mem _ h1
        · cases h1; exact List.mem_cons_self
      · rcases List.mem_cons.1 hd with rfl | hd
        · exact h3 _ rfl
        · exact h2 d hd
    | some y =>
      rw [hb] at h1 h3
      simp only [leastS] at h1 h3
      by_cases e : f x < f y
      · rw [if_pos e] at h1 h3
        refine ⟨Or.inl ?_, fun d hd => ?_, fun d hd => ?_⟩
        · rcases h1 with h1 | h1
          · exact List.mem_cons_of_mem _ h1
          · cases h1; exact List.mem_cons_self
        · rcases List.mem_cons.1 hd with rfl | hd
          · exact h3 _ rfl
          · exact h2 d hd
        · cases hd; have := h3 _ rfl; omega
      · rw [if_neg e] at h1 h3
        refine ⟨?_, fun d hd => ?_, fun d hd => ?_⟩
        · rcases h1 with h1 | h1
          · exact Or.inl (List.mem_cons_of_mem _ h1)
          · exact Or.inr h1
        · rcases List.mem_cons.1 hd with rfl | hd
          · have := h3 _ rfl; omega
          · exact h2 d hd
        · cases hd; exact h3 _ rfl
theorem minOf_none {f : Ch → Int} {l : List Ch} : minOf f l = none ↔ l = [] := by
  unfold minOf
  rw [Option.map_eq_none_iff, leastL_none]
theorem minOf_some {f : Ch → Int} {l : List Ch} {m : Int} (h : minOf f l = some m) : (∃ c ∈ l, f c = m) ∧ ∀ d ∈ l, m ≤ f d := by
  unfold minOf at h
  obtain ⟨c, hc, rfl⟩ := Option.map_eq_some_iff.1 h
  obtain ⟨h1, h2, -⟩ := leastL_spec f l none c hc
  exact ⟨⟨c, (h1.elim (fun h => h) (fun h => by cases h)), rfl⟩, h2⟩
theorem minOf_ex {f : Ch → Int} {l : List Ch} (h : l ≠ []) : ∃ m, minOf f l = some m := by
  cases hm : minOf f l with
  | none => exact absurd (minOf_none.1 hm) h
  | some m => exact ⟨m, rfl⟩
theorem minOf_eq {f : Ch → Int} {l : List Ch} {m : Int} (h1 : ∃ c ∈ l, f c = m) (h2 : ∀ d ∈ l, m ≤ f d) : minOf f l = some m := by
  obtain ⟨c, hc, hm⟩ := h1
  obtain ⟨m', hm'⟩ := minOf_ex (f := f) (List.ne_nil_of_mem hc)
  obtain ⟨⟨c', hc', e⟩, h3⟩ := minOf_some hm'
  have := h2 c' hc'
  have := h3 c hc
  rw [hm', show m' = m from by omega]

/-- the least cost of the first weeks -/
def costOf (X : Wr) (long : Nat) : Option Int := minOf (fun c => allW X c X.price) (choicesW X long)
theorem cheap_costOf (X : Wr) : cheapV X = match costOf X X.weeks.toNat with
    | some m => .tuple #[.int .i64 m, .int .i64 0]
    | none => .tuple #[.int .i64 0, .int .i64 3] := by
  unfold cheapV costOf minOf bestW
  cases leastL (fun c => allW X c X.price) (choicesW X X.weeks.toNat) <;> rfl
theorem enough_costOf (X : Wr) (b : Int) (long : Nat) : enoughB X b long = true ↔ ∃ m, costOf X long = some m ∧ m ≤ b := by
  unfold enoughB costOf minOf bestTo
  cases leastL (fun c => allW X c X.price) (choicesW X long) with
  | none => simp
  | some c => simp
theorem costOf_bd {X : Wr} (hX : ValidW X) {m : Int} (h : costOf X X.weeks.toNat = some m) : 0 ≤ m ∧ m ≤ 30000 := by
  obtain ⟨⟨c, hc, rfl⟩, -⟩ := minOf_some h
  exact allW_bd hX (choices_ok hX (by have := hX.weeks; omega) hc) hX.price

/-! boxes that wear alike in the first weeks -/
structure Alike (k : Nat) (X Y : Wr) : Prop where
  age : X.age = Y.age
  step : X.step = Y.step
  rough : X.rough = Y.rough
  len : X.recs.length = Y.recs.length
  worn : ∀ i, (recW X i).worn = (recW Y i).worn
  limit : ∀ i, (recW X i).limit = (recW Y i).limit
  plays : ∀ j i, j < k → playsW X j i = playsW Y j i
theorem Alike.rw' {k : Nat} {X Y : Wr} (h : Alike k X Y) (a : Int) : roughW X a = roughW Y a := by
  unfold roughW roughI
  rw [h.step, h.rough]
theorem Alike.gr {k : Nat} {X Y : Wr} (h : Alike k X Y) (a : Int) : ∀ n, grindW X a n = grindW Y a n
  | 0 => rfl
  | n + 1 => by simp only [grindW, h.gr a n, h.rw']
theorem Alike.ageTo {k : Nat} {X Y : Wr} (h : Alike k X Y) {j : Nat} (hj : j < k) (a : Int) : ∀ i, ageTo X j a i = Proofs.Ytkcilgjkdiopnaa.ageTo Y j a i
  | 0 => rfl
  | i + 1 => by simp only [Proofs.Ytkcilgjkdiopnaa.ageTo, h.ageTo hj a i, h.plays j i hj]
theorem Alike.ageB {k : Nat} {X Y : Wr} (h : Alike k X Y) (N : Nat) : ∀ j, j ≤ k → ageB X N j = Proofs.Ytkcilgjkdiopnaa.ageB Y N j
  | 0, _ => h.age
  | j + 1, hj => by simp only [Proofs.Ytkcilgjkdiopnaa.ageB, h.ageB N j (by omega), h.ageTo (show j < k by omega), h.len]
theorem Alike.grd {k : Nat} {X Y : Wr} (h : Alike k X Y) (N i : Nat) {j : Nat} (hj : j < k) : grd X N j i = Proofs.Ytkcilgjkdiopnaa.grd Y N j i := by
  unfold Proofs.Ytkcilgjkdiopnaa.grd begA
  rw [h.ageB N j (by omega), h.ageTo hj, h.plays j i hj, h.gr]
theorem lateTo_same {lim w0 : Int} {g g' : Nat → Int} : ∀ k, (∀ j, j < k → g j = g' j) → lateTo lim w0 g k = lateTo lim w0 g' k
  | 0, _ => rfl
  | k + 1, h => by simp only [lateTo, lateTo_same k (fun j hj => h j (by omega)), h k (by omega)]
theorem Alike.recsTo {k : Nat} {X Y : Wr} (h : Alike k X Y) (N : Nat) : ∀ i, recsTo X N k i = Proofs.Ytkcilgjkdiopnaa.recsTo Y N k i
  | 0 => rfl
  | i + 1 => by
    simp only [Proofs.Ytkcilgjkdiopnaa.recsTo, h.recsTo N i, h.limit, h.worn]
    rw [show lateW (recW Y i).limit (recW Y i).worn (fun j => Proofs.Ytkcilgjkdiopnaa.grd X N j i) k = lateW (recW Y i).limit (recW Y i).worn (fun j => Proofs.Ytkcilgjkdiopnaa.grd Y N j i) k from by
      unfold lateW
      rw [lateTo_same k (fun j hj => h.grd N i hj)]]
theorem Alike.choices {k : Nat} {X Y : Wr} (h : Alike k X Y) : choicesW X k = choicesW Y k := by
  unfold choicesW chooseW
  simp only [h.recsTo, h.len]

/-! other prices -/
theorem costTo_le {X Y : Wr} (h : ∀ i, (recW X i).price ≤ (recW Y i).price) (c : Ch) : ∀ n, costTo X c n ≤ costTo Y c n
  | 0 => Int.le_refl _
  | n + 1 => by
    have h1 := costTo_le h c n
    have h2 : (popc (c.records.getD n 0) : Int) * (recW X n).price ≤ popc (c.records.getD n 0) * (recW Y n).price := Int.mul_le_mul_of_nonneg_left (h n) (by omega)
    simp only [costTo]
    omega
theorem costTo_mul {X Y : Wr} {k : Int} (h : ∀ i, (recW Y i).price = k * (recW X i).price) (c : Ch) : ∀ n, costTo Y c n = k * costTo X c n
  | 0 => by simp [costTo]
  | n + 1 => by
    simp only [costTo, costTo_mul h c n, h, Int.mul_add]
    congr 1
    rw [Int.mul_left_comm]
theorem costOf_le {X Y : Wr} {n : Nat} (hA : Alike n X Y) (hp : X.price ≤ Y.price) (h : ∀ i, (recW X i).price ≤ (recW Y i).price) : (costOf Y n = none ↔ costOf X n = none) ∧ ∀ m, costOf X n = some m → ∀ m', costOf Y n = some m' → m ≤ m' := by
  unfold costOf
  rw [minOf_none, minOf_none, hA.choices]
  refine ⟨Iff.rfl, fun m hm m' hm' => ?_⟩
  obtain ⟨⟨c, hc, rfl⟩, -⟩ := minOf_some hm'
  obtain ⟨-, h2⟩ := minOf_some hm
  have h3 := h2 c hc
  have h4 := costTo_le h c c.records.length
  have h5 : (popc c.needles : Int) * X.price ≤ popc c.needles * Y.price := Int.mul_le_mul_of_nonneg_left hp (by omega)
  unfold allW at h3 ⊢
  omega
theorem costOf_mul {X Y : Wr} {n : Nat} {k : Int} (hk : 0 ≤ k) (hA : Alike n X Y) (hp : Y.price = k * X.price) (h : ∀ i, (recW Y i).price = k * (recW X i).price) : costOf Y n = (costOf X n).map (k * ·) := by
  unfold costOf
  rw [← hA.choices]
  have hf : ∀ c, allW Y c Y.price = k * allW X c X.price := fun c => by
    unfold allW
    rw [costTo_mul h, hp, Int.mul_add, Int.mul_left_comm]
  cases hm : minOf (fun c => allW X c X.price) (choicesW X n) with
  | none =>
    rw [minOf_none] at hm
    rw [Option.map_none, minOf_none]
    exact hm
  | some m =>
    obtain ⟨⟨c, hc, e⟩, h2⟩ := minOf_some hm
    rw [Option.map_some]
    refine minOf_eq ⟨c, hc, ?_⟩ (fun d hd => ?_)
    · show allW Y c Y.price = k * m
      rw [hf, ← e]
    · show k * m ≤ allW Y d Y.price
      rw [hf]
      exact Int.mul_le_mul_of_nonneg_left (h2 d hd) hk

/-! fewer weeks -/
theorem popc_mono {s t : Nat} (h : ∀ i, s.testBit i = true → t.testBit i = true) : popc s ≤ popc t := by
  unfold popc
  generalize List.range 6 = l
  induction l with
  | nil => exact Nat.le_refl _
  | cons a r ih =>
    rw [List.filter_cons, List.filter_cons]
    by_cases e : s.testBit a = true
    · rw [if_pos e, if_pos (h a e)]; simpa using ih
    · rw [if_neg e]
      split
      · rw [List.length_cons]; omega
      · exact ih
theorem low_bits {N k j : Nat} (hj : j < k) : (N % 2 ^ k).testBit j = N.testBit j := by
  rw [Nat.testBit_mod_two_pow]; simp [hj]
theorem ageB_low (X : Wr) (N k : Nat) : ∀ j, j ≤ k → ageB X (N % 2 ^ k) j = ageB X N j
  | 0, _ => rfl
  | j + 1, hj => by simp only [ageB, ageB_low X N k j (by omega), low_bits (show j < k by omega)]
theorem grd_low (X : Wr) (N i : Nat) {k j : Nat} (hj : j < k) : grd X (N % 2 ^ k) j i = grd X N j i := by
  unfold grd begA
  rw [ageB_low X N k j (by omega), low_bits hj]
theorem lateW_low {lim w0 : Int} {g : Nat → Int} {k x : Nat} (h : lateW lim w0 g (k + 1) = some x) : ∃ y, lateW lim w0 g k = some y ∧ popc y ≤ popc x := by
  unfold lateW at h ⊢
  simp only [lateTo] at h
  cases hl : lateTo lim w0 g k with
  | none => simp [hl] at h
  | some p =>
    obtain ⟨w1, x1⟩ := p
    simp only [hl] at h
    refine ⟨x1, rfl, ?_⟩
    split at h
    · cases h
    · split at h
      · simp only [Option.map_some, Option.some.injEq] at h
        subst h
        exact popc_mono (fun i hi => by rw [Nat.testBit_or, hi]; rfl)
      · simp only [Option.map_some, Option.some.injEq] at h
        subst h
        exact Nat.le_refl _
theorem recsTo_low {X : Wr} {N k : Nat} : ∀ i l, recsTo X N (k + 1) i = some l → ∃ l', recsTo X (N % 2 ^ k) k i = some l' ∧ l'.length = l.length ∧ ∀ j, popc (l'.getD j 0) ≤ popc (l.getD j 0)
  | 0, l, h => by
    simp only [recsTo, Option.some.injEq] at h
    subst h
    exact ⟨[], rfl, rfl, fun j => Nat.le_refl _⟩
  | i + 1, l, h => by
    simp only [recsTo] at h
    cases hr : recsTo X N (k + 1) i with
    | none => simp [hr] at h
    | some l1 =>
      cases hx : lateW (recW X i).limit (recW X i).worn (fun k => grd X N k i) (k + 1) with
      | none => simp [hr, hx] at h
      | some x =>
        simp only [hr, hx, Option.some.injEq] at h
        subst h
        obtain ⟨l2, h2, h3, h4⟩ := recsTo_low i l1 hr
        obtain ⟨y, hy, hyx⟩ := lateW_low hx
        have hy2 : lateW (recW X i).limit (recW X i).worn (fun j => grd X (N % 2 ^ k) j i) k = some y := by
          rw [← hy]
          unfold lateW
          rw [lateTo_same k (fun j hj => grd_low X N i hj)]
        refine ⟨l2 ++ [y], by simp only [recsTo, h2, hy2], by simp [h3], fun j => ?_⟩
        simp only [List.getD_eq_getElem?_getD]
        by_cases e : j < l1.length
        · rw [List.getElem?_append_left (by omega), List.getElem?_append_left e]
          have := h4 j
          simpa only [List.getD_eq_getElem?_getD] using this
        · rw [List.getElem?_append_right (by omega), List.getElem?_append_right (by omega), h3]
          by_cases e2 : j - l1.length = 0
          · rw [e2]; simpa using hyx
          · rw [List.getElem?_eq_none (by simp; omega), List.getElem?_eq_none (by simp; omega)]
            exact Nat.le_refl _
theorem costTo_low {X : Wr} (hX : ValidW X) {c d : Ch} (h : ∀ j, popc (d.records.getD j 0) ≤ popc (c.records.getD j 0)) : ∀ n, costTo X d n ≤ costTo X c n
  | 0 => Int.le_refl _
  | n + 1 => by
    have h1 := costTo_low hX h n
    have h2 : (popc (d.records.getD n 0) : Int) * (recW X n).price ≤ popc (c.records.getD n 0) * (recW X n).price := Int.mul_le_mul_of_nonneg_right (by have := h n; omega) (rec_bd hX n).1
    simp only [costTo]
    omega
theorem choices_low {X : Wr} (hX : ValidW X) {k : Nat} {c : Ch} (hc : c ∈ choicesW X (k + 1)) : ∃ d ∈ choicesW X k, allW X d X.price ≤ allW X c X.price := by
  unfold choicesW at hc ⊢
  obtain ⟨N, hN, hcN⟩ := List.mem_filterMap.1 hc
  unfold chooseW at hcN
  obtain ⟨l, hl, rfl⟩ := Option.map_eq_some_iff.1 hcN
  obtain ⟨l2, h2, h3, h4⟩ := recsTo_low _ l hl
  refine ⟨⟨N % 2 ^ k, l2⟩, List.mem_filterMap.2 ⟨N % 2 ^ k, List.mem_range.2 (Nat.mod_lt _ (Nat.two_pow_pos k)), by unfold chooseW; rw [h2]; rfl⟩, ?_⟩
  have h5 := costTo_low hX (c := ⟨N, l⟩) (d := ⟨N % 2 ^ k, l2⟩) h4 l.length
  have h6 : popc (N % 2 ^ k) ≤ popc N := popc_mono (fun i hi => by
    rw [Nat.testBit_mod_two_pow] at hi
    simp at hi
    exact hi.2)
  have h7 : (popc (N % 2 ^ k) : Int) * X.price ≤ popc N * X.price := Int.mul_le_mul_of_nonneg_right (by omega) hX.price.1
  unfold allW
  simp only [h3]
  omega
theorem costOf_low {X : Wr} (hX : ValidW X) {k m : Nat} {n : Int} (hk : k ≤ m) (h : costOf X m = some n) : ∃ n', costOf X k = some n' ∧ n' ≤ n := by
  induction m generalizing n with
  | zero => obtain rfl : k = 0 := by omega
            exact ⟨n, h, Int.le_refl _⟩
  | succ m ih =>
    by_cases e : k = m + 1
    · subst e; exact ⟨n, h, Int.le_refl _⟩
    · obtain ⟨⟨c, hc, hcm⟩, -⟩ := minOf_some h
      obtain ⟨d, hd, hle⟩ := choices_low hX hc
      obtain ⟨n1, h1⟩ := minOf_ex (f := fun c => allW X c X.price) (List.ne_nil_of_mem hd)
      obtain ⟨-, h2⟩ := minOf_some h1
      have h3 := h2 d hd
      obtain ⟨n2, h4, h5⟩ := ih (by omega) h1
      exact ⟨n2, h4, by have e1 : allW X c X.price = n := hcm; have e2 : n1 ≤ allW X d X.price := h3; omega⟩
theorem costOf_zero (X : Wr) : ∃ n, costOf X 0 = some n ∧ n ≤ 0 := by
  have hr : ∀ i, ∃ l, recsTo X 0 0 i = some l ∧ ∀ j, l.getD j 0 = 0 := by
    intro i
    induction i with
    | zero => exact ⟨[], rfl, fun j => by simp⟩
    | succ i ih =>
      obtain ⟨l, hl, h0⟩ := ih
      refine ⟨l ++ [0], by simp only [recsTo, hl, lateW, lateTo, Option.map_some], fun j => ?_⟩
      have := h0 j
      simp only [List.getD_eq_getElem?_getD] at this ⊢
      by_cases e : j < l.length
      · rw [List.getElem?_append_left e]; exact this
      · rw [List.getElem?_append_right (by omega)]
        by_cases e2 : j - l.length = 0
        · rw [e2]; rfl
        · rw [List.getElem?_eq_none (by simp; omega)]; rfl
  obtain ⟨l, hl, h0⟩ := hr X.recs.length
  have hm : (⟨0, l⟩ : Ch) ∈ choicesW X 0 := List.mem_filterMap.2 ⟨0, List.mem_range.2 (by decide), by unfold chooseW; rw [hl]; rfl⟩
  obtain ⟨n, hn⟩ := minOf_ex (f := fun c => allW X c X.price) (List.ne_nil_of_mem hm)
  obtain ⟨-, h2⟩ := minOf_some hn
  refine ⟨n, hn, ?_⟩
  have h3 := h2 _ hm
  have hp0 : popc 0 = 0 := by decide
  have hz : ∀ n, costTo X ⟨0, l⟩ n = 0 := by
    intro n
    induction n with
    | zero => rfl
    | succ n ih => simp only [costTo, ih, h0, hp0]; omega
  simp only [allW, hz, hp0] at h3
  omega

/-! how many weeks a budget is enough for -/
theorem lastTo_le (X : Wr) (b : Int) : ∀ n, lastTo X b n ≤ n
  | 0 => Nat.le_refl _
  | n + 1 => by
    have := lastTo_le X b n
    simp only [lastTo]
    split <;> omega
theorem lastTo_ge (X : Wr) (b : Int) {j : Nat} (hj : enoughB X b j = true) : ∀ n, j ≤ n → j ≤ lastTo X b n
  | 0, h => h
  | n + 1, h => by
    simp only [lastTo]
    split
    · exact h
    · next hn =>
      by_cases e : j = n + 1
      · subst e; exact absurd hj hn
      · exact lastTo_ge X b hj n (by omega)
theorem lastTo_ok (X : Wr) {b : Int} (hb : 0 ≤ b) : ∀ n, enoughB X b (lastTo X b n) = true
  | 0 => by
    obtain ⟨m, h1, h2⟩ := costOf_zero X
    exact (enough_costOf X b 0).2 ⟨m, h1, by omega⟩
  | n + 1 => by
    simp only [lastTo]
    split
    · next h => exact h
    · exact lastTo_ok X hb n
theorem lastTo_mono (X : Wr) {b b' : Int} (hb : 0 ≤ b) (h : b ≤ b') (n : Nat) : lastTo X b n ≤ lastTo X b' n := by
  refine lastTo_ge X b' ?_ n (lastTo_le X b n)
  obtain ⟨m, h1, h2⟩ := (enough_costOf X b _).1 (lastTo_ok X hb n)
  exact (enough_costOf X b' _).2 ⟨m, h1, by omega⟩
theorem lastTo_eq (X : Wr) {b : Int} (hb : 0 ≤ b) (n : Nat) : lastTo X b n = n ↔ ∃ m, costOf X n = some m ∧ m ≤ b := by
  rw [← enough_costOf]
  constructor
  · intro h; rw [← h]; exact lastTo_ok X hb n
  · intro h; have := lastTo_ge X b h n (Nat.le_refl _); have := lastTo_le X b n; omega
theorem lastTo_low {X : Wr} (hX : ValidW X) {b : Int} (hb : 0 ≤ b) {n k : Nat} (h : k ≤ lastTo X b n) : ∃ m, costOf X k = some m ∧ m ≤ b := by
  obtain ⟨m, h1, h2⟩ := (enough_costOf X b _).1 (lastTo_ok X hb n)
  obtain ⟨m', h3, h4⟩ := costOf_low hX h h1
  exact ⟨m', h3, by omega⟩
end Go.Proofs.Ytkcilgjkdiopnaa
namespace Go.Proofs.Ytkcilgjkdiopnaa
open Go.RowKit

def cutR (k : Nat) (r : Rec) : Rec := { r with plays := r.plays.take k }
def firstX (X : Wr) (k : Nat) : Wr := { X with weeks := k, recs := X.recs.map (cutR k) }

/-- records whose plays are cut in the first j of them -/
def CutR (j k : Nat) (ys : List Value) (l : List Rec) (g c : Nat → Nat) : Prop := ∀ i (h : i < l.length),
  ys[i * 4]? = some (.int .i64 l[i].worn) ∧ ys[i * 4 + 1]? = some (.int .i64 l[i].limit) ∧ ys[i * 4 + 2]? = some (.int .i64 l[i].price) ∧
  ys[i * 4 + 3]? = some (.slice (some ⟨g i, 0, none⟩) (if i < j then k else l[i].plays.length) (c i))
theorem CutR.step {j k : Nat} {ys : List Value} {l : List Rec} {g c : Nat → Nat} (h : CutR j k ys l g c) (hj : j < l.length) (hl : ys.length = l.length * 4) :
    CutR (j + 1) k (ys.set (j * 4 + 3) (.slice (some ⟨g j, 0, none⟩) k (c j))) l g c := by
  intro i hi
  obtain ⟨h1, h2, h3, h4⟩ := h i hi
  refine ⟨by rw [List.getElem?_set_ne (by omega)]; exact h1, by rw [List.getElem?_set_ne (by omega)]; exact h2, by rw [List.getElem?_set_ne (by omega)]; exact h3, ?_⟩
  by_cases e : i = j
  · subst e
    rw [List.getElem?_set_self (by omega), if_pos (by omega)]
  · rw [List.getElem?_set_ne (by omega), h4]
    by_cases e2 : i < j
    · rw [if_pos e2, if_pos (by omega)]
    · rw [if_neg e2, if_neg (by omega)]
theorem IntsAt.take {w : World} {p : Option Addr} {l : List Int} (h : IntsAt w p l) (k : Nat) : IntsAt w p (l.take k) := by
  intro i hi
  have : i < l.length := by rw [List.length_take] at hi; omega
  obtain ⟨b, o, v, hp, hc, hv⟩ := h i this
  exact ⟨b, o, v, hp, hc, by rw [List.getElem_take]; exact hv⟩
theorem own_cap {w : World} {B : Nat} {e : TypeId} {size g n c : Nat} {xs : List Value} (h : w.ownsRow B e size (.slice (some ⟨g, 0, none⟩) n c) n xs) : n ≤ c := by
  rcases h.2 with ⟨hv, h0⟩ | ⟨g', cap, cur, hv, hB, hg, hc, hm, hs, hx⟩
  · cases hv
  · cases hv; exact hc

set_option maxRecDepth 20000 in
set_option maxHeartbeats 6400000 in
theorem First03 (v : Value) (X : Wr) (k : Nat) (w : World) (hv : WrV w v X) (hX : ValidW X) (hk : (k : Int) ≤ X.weeks) :
    Calls Try.prog 38 #[v, .int .i64 k] w (fun e w' => ∃ v, e = .returned v ∧ Ext w w' ∧ WrV w' v (firstX X k)) := by
  have hm1 : X.rough.length ≤ 1000 := by have := hX.rough; omega
  have hm2 : X.recs.length ≤ 1000 := by have := hX.recs; omega
  have hkp : ∀ i (h : i < X.recs.length), k ≤ X.recs[i].plays.length := fun i h => by have := (hX.rc i h).len; omega
  have hm3 : ∀ r ∈ X.recs, r.plays.length ≤ 1000 := fun r hr => by
    obtain ⟨i, hi, rfl⟩ := List.mem_iff_getElem.1 hr
    have := (hX.rc i hi).len; have := hX.weeks; omega
  have HV := Lib.hid hv
  have hk6 : k ≤ 6 := by have := hX.weeks; omega
  have HKP := Lib.hid hkp
  have HM3 := Lib.hid hm3
  obtain ⟨p, c, q, d, rfl, -, -⟩ := hv
  clear hX hk hkp hm3
  go_enter Try.func38, Try.ntmps38
  go_upto_region 1 with (fail)
  obtain ⟨W, hW⟩ : ∃ W, W = (w.alloc (.cells (wrCells X p c q d) 25)).alloc (.cells #[.int .i64 0, .int .i64 0, .int .i64 0, .int .i64 0, .slice none 0 0, .slice none 0 0] 25) := ⟨_, rfl⟩
  have hb0 : W.heap[w.heap.size]? = some (.cells (wrCells X p c q d) 25) := by rw [hW]; exact heap_new1 _ _ _
  have hb1 : W.heap[w.heap.size + 1]? = some (.cells #[.int .i64 0, .int .i64 0, .int .i64 0, .int .i64 0, .slice none 0 0, .slice none 0 0] 25) := by rw [hW]; exact heap_new2 _ _ _
  have hE : Ext w W := by rw [hW]; exact Ext.alloc (Ext.alloc (Ext.refl w) _) _
  have hWs : W.heap.size = w.heap.size + 2 := by rw [hW]; simp only [size_alloc]
  unfold wrCells at hW hb0
  rw [← hW]
  have q0 := ExtW.cell (v := .int .i64 X.weeks) (cell_of_heap hb0 0)
  have q1 := ExtW.cell (v := .int .i64 X.price) (cell_of_heap hb0 1)
  have q2 := ExtW.cell (v := .int .i64 X.age) (cell_of_heap hb0 2)
  have q3 := ExtW.cell (v := .int .i64 X.step) (cell_of_heap hb0 3)
  have q4 := ExtW.cell (v := .slice p X.rough.length c) (cell_of_heap hb0 4)
  have q5 := ExtW.cell (v := .slice q X.recs.length d) (cell_of_heap hb0 5)
  have HC := Lib.hid (fun x : ExtW W => Copy03 (.agg #[.int .i64 X.weeks, .int .i64 X.price, .int .i64 X.age, .int .i64 X.step, .slice p X.rough.length c, .slice q X.recs.length d]) X x.w (WrV.mono _ _ _ _ (hE.trans x.h) HV.out) hm1 hm2 HM3.out)
  have HB1 := Lib.hid hb1
  have HE := Lib.hid hE
  have HWS := Lib.hid hWs
  obtain ⟨x0, hx0⟩ := ExtW.of (Ext.refl W)
  clear hW hb0 hb1 hE hWs
  conv => arg 5; rw [hx0]
  clear hx0
  go_upto_region 2 with (go_at_call 17; refine (HC.out _).mono ?_; rintro e W1 ⟨u, rfl, hE1, gp, cp, gq, d1, xs, g, cc, rfl, ho1, ho2, hrc, hpq, hap⟩)
  obtain ⟨b, hbd⟩ : ∃ b, b = W1.heap.size := ⟨_, rfl⟩
  obtain ⟨W2, hW2⟩ : ∃ W2, W2 = W1.alloc (.cells #[.int .i64 X.weeks, .int .i64 X.price, .int .i64 X.age, .int .i64 X.step, .slice (some ⟨gp, 0, none⟩) X.rough.length cp, .slice (some ⟨gq, 0, none⟩) X.recs.length d1] 25) := ⟨_, rfl⟩
  have hb2 : W2.heap[b]? = some (.cells #[.int .i64 X.weeks, .int .i64 X.price, .int .i64 X.age, .int .i64 X.step, .slice (some ⟨gp, 0, none⟩) X.rough.length cp, .slice (some ⟨gq, 0, none⟩) X.recs.length d1] 25) := by rw [hW2, hbd]; exact heap_new _ _
  have hE2 : Ext W1 W2 := by rw [hW2]; exact Ext.alloc (Ext.refl W1) _
  have hE02 : Ext W W2 := x0.h.trans (hE1.trans hE2)
  have hbW : W.heap.size ≤ b := by rw [hbd]; exact (x0.h.trans hE1).size
  have ho1' := ownsRow_ext ho1 hE2
  have ho2' := ownsRow_ext ho2 hE2
  have hrc' := hrc.fr (hE2.fr (fun _ => False)) (fun _ _ h => h)
  have hgpb : gp < b := by rw [hbd]; exact (ho1.lt gp rfl).2
  have hgqb : gq < b := by rw [hbd]; exact (ho2.lt gq rfl).2
  have hgb : ∀ i, i < X.recs.length → g i < b := fun i hi => by rw [hbd]; exact ((hrc.row i hi hi).2.lt (g i) rfl).2
  have hM2 : x0.w.heap.size + 3 ≤ b := by have := (ho1.lt gp rfl).1; omega
  have hxs := ho2.1
  have hb1' := (Below.block hE02 _ (Array.getElem?_eq_some_iff.1 HB1.out).1).trans HB1.out
  have hEw := HE.out.trans hE02
  have hx0s : W.heap.size ≤ x0.w.heap.size := x0.h.size
  rw [← hbd, ← hW2]
  have w0 : W2.cell? ⟨b, 0, none⟩ = some (.int .i64 X.weeks) := (cell_of_heap hb2 0).trans rfl
  have w1 : W2.frozen? ⟨b, 0, none⟩ = false := cell_frozen hb2 0
  have HB2 := Lib.hid hb2
  have HO1 := Lib.hid ho1'
  have HO2 := Lib.hid ho2'
  have HRC := Lib.hid hrc'
  have HPQ := Lib.hid hpq
  have HAP := Lib.hid hap
  have HGB := Lib.hid hgb
  have HXS := Lib.hid hxs
  have HB1' := Lib.hid hb1'
  have HEW := Lib.hid hEw
  clear hW2 hb2 hE1 hE2 hE02 ho1 ho2 hrc hpq hap hgb hxs hb1' hEw ho1' ho2' hrc' q0 q1 q2 q3 q4 q5 HC HB1 HE hbd
  go_upto_region 3 with (fail)
  obtain ⟨M, hMd⟩ : ∃ M, M = x0.w.heap.size + 3 := ⟨_, rfl⟩
  rw [← hMd] at HO1 HO2 HRC hM2
  have hMw : w.heap.size + 5 ≤ M := by have := HWS.out; omega
  obtain ⟨W5, hW5⟩ : ∃ W5, W5 = W2.setCell ⟨b, 0, none⟩ (.int .i64 k) := ⟨_, rfl⟩
  have hF5 : Fr (fun i => i = b) W2 W5 := by rw [hW5]; exact (Fr.refl _ _).set rfl
  have hb5 : W5.heap[b]? = some (.cells #[.int .i64 k, .int .i64 X.price, .int .i64 X.age, .int .i64 X.step, .slice (some ⟨gp, 0, none⟩) X.rough.length cp, .slice (some ⟨gq, 0, none⟩) X.recs.length d1] 25) := by rw [hW5]; exact heap_set HB2.out rfl
  have hbw : w.heap.size + 1 < b := by omega
  have hr5 := (ownsRow_fr HO1.out hF5 (fun e he => by cases he; show ¬gp = b; omega))
  have ho5 := (ownsRow_fr HO2.out hF5 (fun e he => by cases he; show ¬gq = b; omega))
  have hrc5 : ∀ i (h : i < X.recs.length), W5.ownsRow M 3 1 (.slice (some ⟨g i, 0, none⟩) X.recs[i].plays.length (cc i)) X.recs[i].plays.length (intVs X.recs[i].plays) := fun i hi =>
    ownsRow_fr (HRC.out.row i hi hi).2 hF5 (fun e he => by cases he; show ¬g i = b; have := HGB.out i hi; omega)
  have hcut : CutR 0 k xs X.recs g cc := fun i hi => by
    obtain ⟨f1, f2, f3, -⟩ := HRC.out.fix i hi
    exact ⟨f1, f2, f3, by rw [if_neg (by omega)]; exact (HRC.out.row i hi hi).1⟩
  have hb15 := (hF5.block (w.heap.size + 1) (by have := (Array.getElem?_eq_some_iff.1 HB1'.out).1; omega) (show ¬(w.heap.size + 1 = b) by omega)).trans HB1'.out
  have hE5 : Ext w W5 := Fr.ext HEW.out hF5 (fun i hi => by have e : i = b := hi; omega)
  have hs5 : b < W5.heap.size := (Array.getElem?_eq_some_iff.1 hb5).1
  rw [← hW5]
  have HB5 := Lib.hid hb5
  have HR5 := Lib.hid hr5
  have HO5 := Lib.hid ho5
  have HRC5 := Lib.hid hrc5
  have HCUT := Lib.hid hcut
  have HZ5 := Lib.hid hb15
  have HE5 := Lib.hid hE5
  have hgqM : M ≤ gq := (ho5.lt gq rfl).1
  clear hW5 hF5 hb5 hr5 ho5 hrc5 hcut hb15 hE5 w0 w1 HB2 HO1 HO2 HRC HB1' HEW hMd
  go_wp2
  go_loopw [6] (fun i wr => ∃ (j : Nat) (ys : List Value), j ≤ X.recs.length ∧ i = .int .i64 j ∧ CutR j k ys X.recs g cc ∧ wr.ownsRow M 54 4 (.slice (some ⟨gq, 0, none⟩) X.recs.length d1) X.recs.length ys ∧ Fr (fun i => i = gq) W5 wr) (fun i _ => X.recs.length - (intOf i).toNat)
  case atStart => exact ⟨0, xs, by omega, rfl, HCUT.out, HO5.out, Fr.refl _ _⟩
  case round =>
    obtain ⟨j, ys, hj, rfl, hcr, hor, hF⟩ := hrel
    have hbr : wr.heap[b]? = _ := (hF.block b hs5 (by omega)).trans HB5.out
    have hzr : wr.heap[w.heap.size + 1]? = _ := (hF.block _ (by omega) (by omega)).trans HZ5.out
    have d5 : wr.cell? ⟨b, 5, none⟩ = some (.slice (some ⟨gq, 0, none⟩) X.recs.length d1) := (cell_of_heap hbr 5).trans rfl
    have HCR := Lib.hid hcr
    have HOR := Lib.hid hor
    have HF := Lib.hid hF
    have HBR := Lib.hid hbr
    have HZR := Lib.hid hzr
    clear hcr hor hF hbr hzr
    by_cases hlt : j < X.recs.length
    · obtain ⟨-, -, -, h4⟩ := HCR.out j hlt
      obtain ⟨b9, c9, he9, hc9⟩ := ownsRow_cell HOR.out (j * 4 + 3) (by omega)
      cases he9
      rw [h4, if_neg (by omega)] at hc9
      have f9 := ownsRow_frozen (i := j * 4 + 3) HOR.out
      have hcap := own_cap (HRC5.out j hlt)
      have hkc : k ≤ cc j := by have := HKP.out j hlt; omega
      have hkl : k ≤ X.recs[j].plays.length := HKP.out j hlt
      have hlt' : (j : Int) < (X.recs.length : Int) := by omega
      clear h4
      go_upto_region 6 with (fail)
      go_still_tail 13, (by kernel_rfl)
      change wpList _ _ _ _ _ wr.drew
      obtain ⟨w2, hw2⟩ : ∃ w2, w2 = wr.drew := ⟨_, rfl⟩
      rw [← hw2]
      have hEd : Ext wr w2 := by rw [hw2]; exact (Ext.refl wr).drew
      have s5 : w2.cell? ⟨b, 5, none⟩ = some (.slice (some ⟨gq, 0, none⟩) X.recs.length d1) := hEd.cell d5
      have s9 : w2.cell? ⟨gq, j * 4 + 3, none⟩ = _ := hEd.cell hc9
      have t9 : w2.frozen? ⟨gq, j * 4 + 3, none⟩ = false := by rw [hw2]; exact f9
      have HED := Lib.hid hEd
      clear hw2 hEd d5 hc9 f9
      go_upto_region 5 with (fail)
      have hor2 := ownsRow_setV (i := j * 4 + 3) (u := .slice (some ⟨g j, 0, none⟩) k (cc j)) (ownsRow_ext HOR.out HED.out)
      have hcr2 := HCR.out.step hlt HOR.out.1
      have hF2 : Fr (fun i => i = gq) W5 (w2.setCell ⟨gq, j * 4 + 3, none⟩ (.slice (some ⟨g j, 0, none⟩) k (cc j))) := (HF.out.trans (HED.out.fr _)).set rfl
      have HOR2 := Lib.hid hor2
      have HCR2 := Lib.hid hcr2
      have HF2 := Lib.hid hF2
      clear hor2 hcr2 hF2 s5 s9 t9 HCR HOR HF
      go_wp2
      go_roundw
      case rel => exact ⟨j + 1, _, by omega, by go_num, HCR2.out, HOR2.out, HF2.out⟩
      case measure => simp [intOf]; omega
    · obtain rfl : j = X.recs.length := by omega
      have d0 : wr.cell? ⟨b, 0, none⟩ = some (.int .i64 k) := (cell_of_heap HBR.out 0).trans rfl
      have d1' : wr.cell? ⟨b, 1, none⟩ = some (.int .i64 X.price) := (cell_of_heap HBR.out 1).trans rfl
      have d2 : wr.cell? ⟨b, 2, none⟩ = some (.int .i64 X.age) := (cell_of_heap HBR.out 2).trans rfl
      have d3 : wr.cell? ⟨b, 3, none⟩ = some (.int .i64 X.step) := (cell_of_heap HBR.out 3).trans rfl
      have d4 : wr.cell? ⟨b, 4, none⟩ = some (.slice (some ⟨gp, 0, none⟩) X.rough.length cp) := (cell_of_heap HBR.out 4).trans rfl
      have z0 : wr.cell? ⟨w.heap.size + 1, 0, none⟩ = some (.int .i64 0) := (cell_of_heap HZR.out 0).trans rfl
      have z1 : wr.cell? ⟨w.heap.size + 1, 1, none⟩ = some (.int .i64 0) := (cell_of_heap HZR.out 1).trans rfl
      have z2 : wr.cell? ⟨w.heap.size + 1, 2, none⟩ = some (.int .i64 0) := (cell_of_heap HZR.out 2).trans rfl
      have z3 : wr.cell? ⟨w.heap.size + 1, 3, none⟩ = some (.int .i64 0) := (cell_of_heap HZR.out 3).trans rfl
      have z4 : wr.cell? ⟨w.heap.size + 1, 4, none⟩ = some (.slice none 0 0) := (cell_of_heap HZR.out 4).trans rfl
      have z5 : wr.cell? ⟨w.heap.size + 1, 5, none⟩ = some (.slice none 0 0) := (cell_of_heap HZR.out 5).trans rfl
      have fz := fun i => cell_frozen HZR.out i
      go_wp2
      generalize hW9 : World.setCell _ _ _ = W9
      have hF9 : Fr (fun k => k = w.heap.size + 1) wr W9 := by rw [← hW9]; exact ((((((Fr.refl (fun k => k = w.heap.size + 1) wr).set rfl).set rfl).set rfl).set rfl).set rfl).set rfl
      have h9 : W9.heap[w.heap.size + 1]? = some (.cells #[.int .i64 k, .int .i64 X.price, .int .i64 X.age, .int .i64 X.step, .slice (some ⟨gp, 0, none⟩) X.rough.length cp, .slice (some ⟨gq, 0, none⟩) X.recs.length d1] 25 (0, 0)) := by rw [← hW9]; exact heap_set6 HZR.out
      have hEw : Ext w wr := Fr.ext HE5.out HF.out (fun i hi => by have e : i = gq := hi; omega)
      have hEw9 : Ext w W9 := Fr.ext hEw hF9 (fun i hi => by have e : i = w.heap.size + 1 := hi; omega)
      have hr9 := ownsRow_fr (ownsRow_fr HR5.out HF.out (fun e he => by cases he; exact HPQ.out)) hF9 (fun e he => by cases he; show ¬gp = w.heap.size + 1; have := (HR5.out.lt gp rfl).1; omega)
      have ho9 := ownsRow_fr HOR.out hF9 (fun e he => by cases he; show ¬gq = w.heap.size + 1; omega)
      refine bodyPost_ret (v := .agg #[.int .i64 k, .int .i64 X.price, .int .i64 X.age, .int .i64 X.step, .slice (some ⟨gp, 0, none⟩) X.rough.length cp, .slice (some ⟨gq, 0, none⟩) X.recs.length d1]) ?_ rfl ⟨_, rfl, hEw9, some ⟨gp, 0, none⟩, cp, some ⟨gq, 0, none⟩, d1, ?_, row_ints hr9, fun i hi => ?_⟩
      · have a0 := cell_of_heap h9 0
        have a1 := cell_of_heap h9 1
        have a2 := cell_of_heap h9 2
        have a3 := cell_of_heap h9 3
        have a4 := cell_of_heap h9 4
        have a5 := cell_of_heap h9 5
        simp at a0 a1 a2 a3 a4 a5
        simp [results, Try.results38, go_sem, a0, a1, a2, a3, a4, a5]
      · simp [firstX]
      · have hi' : i < X.recs.length := by simpa [firstX] using hi
        obtain ⟨f1, f2, f3, f4⟩ := HCR.out i hi'
        rw [if_pos hi'] at f4
        have hrow := ownsRow_fr (ownsRow_fr (HRC5.out i hi') HF.out (fun e he => by cases he; exact (HAP.out i hi').2)) hF9 (fun e he => by cases he; show ¬g i = w.heap.size + 1; have := ((HRC5.out i hi').lt (g i) rfl).1; omega)
        have at4 : ∀ r, r < 4 → W9.cell? ⟨gq, i * 4 + r, none⟩ = ys[i * 4 + r]? := fun r hr => by
          obtain ⟨b', c', he, hc⟩ := ownsRow_cell ho9 (i * 4 + r) (by omega)
          cases he
          exact hc
        have e : (firstX X k).recs[i] = cutR k X.recs[i] := by simp [firstX]
        rw [e]
        have hlen : (X.recs[i].plays.take k).length = k := by rw [List.length_take]; have := HKP.out i hi'; omega
        refine ⟨gq, 0, some ⟨g i, 0, none⟩, cc i, rfl, ?_, ?_, ?_, ?_, (row_ints hrow).take k⟩
        · rw [Nat.zero_add]; exact (at4 0 (by omega)).trans f1
        · rw [Nat.zero_add]; exact (at4 1 (by omega)).trans f2
        · rw [Nat.zero_add]; exact (at4 2 (by omega)).trans f3
        · rw [Nat.zero_add]; exact (at4 3 (by omega)).trans (f4.trans (by simp only [cutR, hlen]))
end Go.Proofs.Ytkcilgjkdiopnaa
namespace Go.Proofs.Ytkcilgjkdiopnaa
open Go.RowKit

theorem recW_map {X Y : Wr} {f : Rec → Rec} (h : Y.recs = X.recs.map f) (h0 : f noRec = noRec) (i : Nat) : recW Y i = f (recW X i) := by
  unfold recW
  rw [h, List.getD_eq_getElem?_getD, List.getD_eq_getElem?_getD, List.getElem?_map]
  cases X.recs[i]? with
  | none => exact h0.symm
  | some r => rfl
theorem first_rec (X : Wr) (k i : Nat) : recW (firstX X k) i = cutR k (recW X i) := recW_map rfl (by simp [cutR, noRec]) i
theorem first_plays (X : Wr) (k : Nat) {j : Nat} (i : Nat) (hj : j < k) : playsW (firstX X k) j i = playsW X j i := by
  unfold playsW
  rw [first_rec]
  unfold cutR
  simp only [List.getD_eq_getElem?_getD, List.getElem?_take, if_pos hj]
theorem first_alike (X : Wr) (k : Nat) : Alike k X (firstX X k) where
  age := rfl
  step := rfl
  rough := rfl
  len := by simp [firstX]
  worn := fun i => by rw [first_rec]; rfl
  limit := fun i => by rw [first_rec]; rfl
  plays := fun j i hj => (first_plays X k i hj).symm
theorem first_valid {X : Wr} (hX : ValidW X) {k : Nat} (hk : (k : Int) ≤ X.weeks) : ValidW (firstX X k) where
  weeks := ⟨Int.natCast_nonneg k, by have := hX.weeks; show (k : Int) ≤ 6; omega⟩
  age := hX.age
  step := hX.step
  price := hX.price
  rough := hX.rough
  recs := by simpa [firstX] using hX.recs
  rg := hX.rg
  up := hX.up
  rc := fun i hi => by
    have hi' : i < X.recs.length := by simpa [firstX] using hi
    obtain ⟨h1, h2, h3, h4, h5⟩ := hX.rc i hi'
    have e : (firstX X k).recs[i] = cutR k X.recs[i] := by simp [firstX]
    rw [e]
    refine ⟨h1, h2, h3, ?_, fun j hj => ?_⟩
    · show (((X.recs[i].plays.take k).length : Nat) : Int) = (k : Int)
      rw [List.length_take]; omega
    · have hj' : j < X.recs[i].plays.length := by
        have : j < (X.recs[i].plays.take k).length := hj
        rw [List.length_take] at this; omega
      have := h5 j hj'
      have e2 : (cutR k X.recs[i]).plays[j] = X.recs[i].plays[j] := by simp [cutR]
      rw [e2]; exact this
theorem costOf_same {X Y : Wr} {n : Nat} (hA : Alike n X Y) (hp : Y.price = X.price) (h : ∀ i, (recW Y i).price = (recW X i).price) : costOf Y n = costOf X n := by
  have := costOf_mul (k := 1) (by decide) hA (by omega) (fun i => by have := h i; omega)
  rw [this]
  cases costOf X n <;> simp
theorem first_cost (X : Wr) (k : Nat) : costOf (firstX X k) k = costOf X k :=
  costOf_same (first_alike X k) rfl (fun i => by rw [first_rec]; rfl)
theorem first_cheap (X : Wr) (k : Nat) : cheapV (firstX X k) = match costOf X k with
    | some m => .tuple #[.int .i64 m, .int .i64 0]
    | none => .tuple #[.int .i64 0, .int .i64 3] := by
  rw [cheap_costOf]
  have : (firstX X k).weeks.toNat = k := by simp [firstX]
  rw [this, first_cost]
  all_goals (cases costOf X k <;> rfl)
end Go.Proofs.Ytkcilgjkdiopnaa
namespace Go.Proofs.Ytkcilgjkdiopnaa
open Go.RowKit

/-- how many of the first k bits are set -/
def popTo (s k : Nat) : Nat := ((List.range k).filter s.testBit).length
theorem popTo_succ (s k : Nat) : popTo s (k + 1) = popTo s k + if s.testBit k then 1 else 0 := by
  unfold popTo
  rw [List.range_succ, List.filter_append, List.length_append]
  by_cases h : s.testBit k = true <;> simp [h]
theorem popTo_congr {s t : Nat} : ∀ k, (∀ j, j < k → s.testBit j = t.testBit j) → popTo s k = popTo t k
  | 0, _ => rfl
  | k + 1, h => by rw [popTo_succ, popTo_succ, popTo_congr k (fun j hj => h j (by omega)), h k (by omega)]
theorem popTo_high {s k : Nat} (h : ∀ j, k ≤ j → s.testBit j = false) : ∀ n, k ≤ n → popTo s n = popTo s k
  | 0, hn => by rw [show k = 0 from by omega]
  | n + 1, hn => by
    by_cases e : k = n + 1
    · rw [e]
    · rw [popTo_succ, h n (by omega), popTo_high h n (by omega)]; rfl
theorem bit_high {s k j : Nat} (h : s < 2 ^ k) (hj : k ≤ j) : s.testBit j = false :=
  Nat.testBit_lt_two_pow (Nat.lt_of_lt_of_le h (Nat.pow_le_pow_right (by decide) hj))
theorem popc_popTo {s k : Nat} (hk : k ≤ 6) (h : s < 2 ^ k) : popc s = popTo s k :=
  show popTo s 6 = _ from popTo_high (fun _ hj => bit_high h hj) 6 hk

/-- how much is worn in the end of k weeks, if it is replaced in the weeks S -/
def wornS (w0 : Int) (g : Nat → Int) (S : Nat) : Nat → Int
  | 0 => w0
  | k + 1 => (if S.testBit k then 0 else wornS w0 g S k) + g k
def GoodS (lim w0 : Int) (g : Nat → Int) (S n : Nat) : Prop := ∀ k, k < n → wornS w0 g S (k + 1) ≤ lim
theorem wornS_pos {w0 : Int} {g : Nat → Int} {S : Nat} (h0 : 0 ≤ w0) (hg : ∀ k, 0 ≤ g k) : ∀ k, 0 ≤ wornS w0 g S k
  | 0 => h0
  | k + 1 => by
    have := wornS_pos (S := S) h0 hg k
    have := hg k
    simp only [wornS]
    split <;> omega
theorem wornS_congr {w0 : Int} {g : Nat → Int} {S T : Nat} : ∀ k, (∀ j, j < k → S.testBit j = T.testBit j) → wornS w0 g S k = wornS w0 g T k
  | 0, _ => rfl
  | k + 1, h => by simp only [wornS, wornS_congr k (fun j hj => h j (by omega)), h k (by omega)]
theorem late_lt {lim w0 : Int} {g : Nat → Int} : ∀ k w x, lateTo lim w0 g k = some (w, x) → x < 2 ^ k
  | 0, w, x, h => by simp only [lateTo, Option.some.injEq, Prod.mk.injEq] at h; omega
  | k + 1, w, x, h => by
    simp only [lateTo] at h
    cases hl : lateTo lim w0 g k with
    | none => simp [hl] at h
    | some p =>
      obtain ⟨w1, x1⟩ := p
      have := late_lt k w1 x1 hl
      have h2 : 2 ^ (k + 1) = 2 ^ k + 2 ^ k := by rw [Nat.pow_succ]; omega
      simp only [hl] at h
      split at h
      · cases h
      · split at h
        · simp only [Option.some.injEq, Prod.mk.injEq] at h
          rw [← h.2]
          exact Nat.or_lt_two_pow (by omega) (by rw [h2]; have := Nat.two_pow_pos k; omega)
        · simp only [Option.some.injEq, Prod.mk.injEq] at h
          omega
theorem bit_or {x k : Nat} : (x ||| 2 ^ k).testBit k = true ∧ ∀ j, j < k → (x ||| 2 ^ k).testBit j = x.testBit j := by
  refine ⟨by simp [Nat.testBit_or, Nat.testBit_two_pow_self], fun j hj => ?_⟩
  rw [Nat.testBit_or, Nat.testBit_two_pow]
  have : ¬k = j := by omega
  simp [this]
/-- as seldom as can be -/
theorem late_best {lim w0 : Int} {g : Nat → Int} (h0 : 0 ≤ w0) (hg : ∀ k, 0 ≤ g k) (S : Nat) : ∀ k, GoodS lim w0 g S k →
    ∃ w x, lateTo lim w0 g k = some (w, x) ∧ (popTo x k < popTo S k ∨ (popTo x k = popTo S k ∧ w ≤ wornS w0 g S k))
  | 0, _ => ⟨w0, 0, rfl, Or.inr ⟨rfl, Int.le_refl _⟩⟩
  | k + 1, h => by
    obtain ⟨w, x, hl, hc⟩ := late_best h0 hg S k (fun j hj => h j (by omega))
    have hk := h k (by omega)
    have hp := wornS_pos (S := S) h0 hg k
    have hx := late_lt k w x hl
    simp only [wornS] at hk
    have hgl : ¬lim < g k := by split at hk <;> omega
    simp only [lateTo, hl, if_neg hgl]
    rw [popTo_succ]
    by_cases hr : lim < w + g k
    · rw [if_pos hr]
      refine ⟨_, _, rfl, ?_⟩
      rw [popTo_succ, bit_or.1, popTo_congr k bit_or.2]
      simp only [wornS, if_true]
      rcases hc with hc | ⟨hc, hw⟩
      · by_cases hS : S.testBit k = true
        · rw [if_pos hS, if_pos hS]; exact Or.inl (by omega)
        · rw [if_neg hS, if_neg hS]
          by_cases e : popTo x k + 1 = popTo S k
          · exact Or.inr ⟨e, by omega⟩
          · exact Or.inl (by omega)
      · by_cases hS : S.testBit k = true
        · rw [if_pos hS, if_pos hS]; exact Or.inr ⟨by omega, by omega⟩
        · rw [if_neg hS] at hk; omega
    · rw [if_neg hr]
      refine ⟨_, _, rfl, ?_⟩
      rw [popTo_succ, bit_high hx (Nat.le_refl k)]
      simp only [wornS, Bool.false_eq_true, if_false, Nat.add_zero]
      rcases hc with hc | ⟨hc, hw⟩
      · exact Or.inl (by split <;> omega)
      · by_cases hS : S.testBit k = true
        · rw [if_pos hS, if_pos hS]; exact Or.inl (by omega)
        · rw [if_neg hS, if_neg hS]; exact Or.inr ⟨by omega, by omega⟩
theorem late_good {lim w0 : Int} {g : Nat → Int} : ∀ k w x, lateTo lim w0 g k = some (w, x) → wornS w0 g x k = w ∧ GoodS lim w0 g x k
  | 0, w, x, h => by
    simp only [lateTo, Option.some.injEq, Prod.mk.injEq] at h
    exact ⟨h.1, fun j hj => by omega⟩
  | k + 1, w, x, h => by
    simp only [lateTo] at h
    cases hl : lateTo lim w0 g k with
    | none => simp [hl] at h
    | some p =>
      obtain ⟨w1, x1⟩ := p
      obtain ⟨h1, h2⟩ := late_good k w1 x1 hl
      have hx := late_lt k w1 x1 hl
      simp only [hl] at h
      split at h
      · cases h
      · next hgl =>
        split at h
        · next hr =>
          simp only [Option.some.injEq, Prod.mk.injEq] at h
          obtain ⟨rfl, rfl⟩ := h
          refine ⟨by simp only [wornS, bit_or.1, if_true]; omega, fun j hj => ?_⟩
          by_cases e : j = k
          · subst e; simp only [wornS, bit_or.1, if_true]; omega
          · rw [wornS_congr (T := x1) (j + 1) (fun i hi => bit_or.2 i (by omega))]
            exact h2 j (by omega)
        · next hr =>
          simp only [Option.some.injEq, Prod.mk.injEq] at h
          obtain ⟨rfl, rfl⟩ := h
          have hb : x1.testBit k = false := bit_high hx (Nat.le_refl k)
          refine ⟨by simp only [wornS, hb, h1]; simp, fun j hj => ?_⟩
          by_cases e : j = k
          · subst e; simp only [wornS, hb, h1]; simp; omega
          · exact h2 j (by omega)
theorem lateW_good {lim w0 : Int} {g : Nat → Int} {n x : Nat} (hn : n ≤ 6) (h : lateW lim w0 g n = some x) : x < 2 ^ n ∧ GoodS lim w0 g x n ∧ popc x = popTo x n := by
  unfold lateW at h
  obtain ⟨⟨w, y⟩, h1, rfl⟩ := Option.map_eq_some_iff.1 h
  have hx := late_lt n w y h1
  exact ⟨hx, (late_good n w y h1).2, popc_popTo hn hx⟩
theorem lateW_best {lim w0 : Int} {g : Nat → Int} {n : Nat} (hn : n ≤ 6) (h0 : 0 ≤ w0) (hg : ∀ k, 0 ≤ g k) {S : Nat} (h : GoodS lim w0 g S n) : ∃ x, lateW lim w0 g n = some x ∧ popc x ≤ popTo S n := by
  obtain ⟨w, x, h1, h2⟩ := late_best h0 hg S n h
  refine ⟨x, by unfold lateW; rw [h1]; rfl, ?_⟩
  rw [popc_popTo hn (late_lt n w x h1)]
  omega
end Go.Proofs.Ytkcilgjkdiopnaa
namespace Go.Proofs.Ytkcilgjkdiopnaa
open Go.RowKit

theorem Last03i (v : Value) (X : Wr) (budget : Int) (w : World) (hv : WrV w v X) (hX : ValidW X) (h0 : 0 ≤ budget) (h1 : budget ≤ 99999) :
    Calls Try.prog 30 #[v, .int .i64 budget] w (RetE (.tuple #[.int .i64 (lastTo X budget X.weeks.toNat), .int .i64 0]) w) := by
  have := Last03 v X budget w hv hX (modest_valid hX)
  unfold lastV at this
  rwa [if_pos ⟨h0, h1⟩] at this
theorem isKnown03 (e : Int) (h : e = 0 ∨ e = 3) (w : World) : Calls Try.prog 37 #[.int .i64 e] w (RetE (.bool true) w) := by
  go_enter Try.func37, Try.ntmps37
  rcases h with rfl | rfl
  · go_wp2
    go_ret
    exact RetE.fin (by first | exact Ext.refl _ | exact (Ext.refl _).drew) rfl
  · go_wp2
    go_ret
    exact RetE.fin (by first | exact Ext.refl _ | exact (Ext.refl _).drew) rfl
theorem not_farP {l : List Wk} (h : ¬FarP l) : l.length ≤ 40 ∧ ∀ x ∈ l, x.recs.length ≤ 40 := by
  simp only [FarP, not_or, not_exists, not_and] at h
  exact ⟨by omega, fun x hx => by have := h.2 x hx; omega⟩
theorem modestP {X : Wr} (hX : ValidW X) {l : List Wk} (hP : PlanOK X l) : l.length ≤ 6 ∧ ∀ x ∈ l, x.recs.length ≤ 6 := by
  refine ⟨by have := hP.1; have := hX.weeks; omega, fun x hx => ?_⟩
  have h1 := (hP.2 x hx).1
  have h4 := hX.recs
  apply Classical.byContradiction
  intro hn
  have h5 : ∀ i (hi : i < x.recs.length), (i : Int) ≤ x.recs[i] := by
    intro i
    induction i with
    | zero => intro hi; exact (h1.1 0 hi).1
    | succ j ih => intro hi; have := ih (by omega); have := h1.2 j hi; omega
  have := h5 5 (by omega)
  have := (h1.1 5 (by omega)).2
  omega
end Go.Proofs.Ytkcilgjkdiopnaa
