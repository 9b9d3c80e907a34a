/- The walks of the reference's FirstBad, Run and Good. -/
import Derived.Test.YtkcilgjkdiopnaaR3c
namespace Go.Proofs.Ytkcilgjkdiopnaa
open Go.RowKit

theorem run_cost {X : Wr} {l : List Wk} (hP : PlanOK X l) : ∀ k, k ≤ l.length → (runTo X l k).cost = costPl X l k
  | 0, _ => rfl
  | k + 1, h => by
    have ih := run_cost hP k (by omega)
    have hw := week_ok hP (show k < l.length by omega)
    rw [runTo, weekW, cost_playsTo, cost_rep, costPl, ← ih]
    unfold newW
    rcases (show (wkAt l k).needle = 0 ∨ (wkAt l k).needle = 1 by have := hw.2; omega) with e | e
    · simp [e]
    · simp [e]

set_option maxRecDepth 20000 in
set_option maxHeartbeats 8000000 in
theorem FirstBadR03 (v : Value) (X : Wr) (pp : Option Addr) (l : List Wk) (pc : Nat) (w : World) (hv : WrV w v X) (hX : ValidW X) (hP : PlanOK X l) (h : WksAt w pp l) :
    Calls Try.prog 47 #[v, .slice pp l.length pc] w (RetE (.int .i64 (firstBad X l)) w) := by
  have hl6 := (modestP hX hP).1
  have hx4 := hX.recs
  have HX := Lib.hid hX
  have HP := Lib.hid hP
  have HA := Lib.hid (fun y (hE : Ext w y) => All03 v X pp l pc y (WrV.mono _ _ _ _ hE hv) hX hP (h.ext hE))
  obtain ⟨p, cp, q, d, rfl, hR, hG⟩ := hv
  have HG := Lib.hid hG
  clear hX hP hR hG h
  go_enter Try.func47, Try.ntmps47
  go_upto_region 1 with (fail)
  generalize hW : World.alloc _ _ = W
  have hb0 : W.heap[w.heap.size]? = some (.cells #[.int .i64 X.weeks, .int .i64 X.price, .int .i64 X.age, .int .i64 X.step, .slice p X.rough.length cp, .slice q X.recs.length d] 25) := by rw [← hW]; exact heap_new _ _
  have hE : Ext w W := by rw [← hW]; exact Ext.alloc (Ext.refl w) _
  have q0 : W.cell? ⟨w.heap.size, 0, none⟩ = some (.int .i64 X.weeks) := (cell_of_heap hb0 0).trans rfl
  have q1 : W.cell? ⟨w.heap.size, 1, none⟩ = some (.int .i64 X.price) := (cell_of_heap hb0 1).trans rfl
  have q2 : W.cell? ⟨w.heap.size, 2, none⟩ = some (.int .i64 X.age) := (cell_of_heap hb0 2).trans rfl
  have q3 : W.cell? ⟨w.heap.size, 3, none⟩ = some (.int .i64 X.step) := (cell_of_heap hb0 3).trans rfl
  have q4 : W.cell? ⟨w.heap.size, 4, none⟩ = some (.slice p X.rough.length cp) := (cell_of_heap hb0 4).trans rfl
  have q5 : W.cell? ⟨w.heap.size, 5, none⟩ = some (.slice q X.recs.length d) := (cell_of_heap hb0 5).trans rfl
  have HA1 := Lib.hid (HA.out W hE)
  have HE := Lib.hid hE
  clear hW hE HA
  go_upto_region 2 with (go_at_call 60; refine HA1.out.mono ?_; rintro e W1 ⟨g, c, rfl, hE1, hpd⟩)
  have r5 := ExtW.cell (hE1.cell q5)
  have HPD := Lib.hid hpd
  have HG1 := Lib.hid (HG.out.ext (HE.out.trans hE1))
  have HEW := Lib.hid (HE.out.trans hE1)
  obtain ⟨x0, hx0⟩ := ExtW.of (Ext.refl W1)
  clear q0 q1 q2 q3 q4 q5 hpd HA1 hb0 hE1
  conv => arg 5; rw [hx0]
  clear hx0
  go_wp2
  go_loopw [6] (fun i wr => ∃ k : Nat, k ≤ l.length ∧ i = .int .i64 k ∧ (∀ j, j < k → badAt X l j = false) ∧ ∃ x : ExtW W1, wr = x.w) (fun i _ => l.length - (intOf i).toNat)
  case atStart => exact ⟨0, Nat.zero_le _, rfl, fun j hj => by omega, x0, rfl⟩
  case round =>
    clear x0
    obtain ⟨k, hk, rfl, hno, x, rfl⟩ := hrel
    have HNO := Lib.hid hno
    clear hno
    by_cases hlt : k < l.length
    · obtain ⟨b, o, qq, cc, he, h1, -, h3⟩ := HPD.out (k + 1) (by rw [allTo_len]; omega)
      cases he
      have e : (allTo X l (l.length + 1))[k + 1]'(by rw [allTo_len]; omega) = pdAt X l (k + 1) := by simp [allTo]
      rw [e] at h1 h3
      have hwl := wornL_len X.recs.length (runTo X l (k + 1)).worn
      simp only [pdAt] at h1 h3
      rw [hwl] at h1
      rw [Nat.zero_add] at h1
      have u1 := ExtW.cell h1
      have H3 := Lib.hid h3
      have hkI : (k : Int) < (l.length : Int) := by omega
      have hk1 : (k : Int) + 1 < (l.length : Int) + 1 := by omega
      have hwk : IntKind.i64.wrap ((k : Int) + 1) = (k : Int) + 1 := IntWalk.i64_in _ (by omega)
      have hk0 : (0 : Int) ≤ (k : Int) + 1 := by omega
      have hkn : ((k : Int) + 1).toNat = k + 1 := by omega
      have HWL := Lib.hid hwl
      have HIX := Lib.hid hwk
      clear h1 h3 e hwl
      go_wp2
      go_loopw [7] (fun i wr => ∃ m : Nat, m ≤ X.recs.length ∧ i = .int .i64 m ∧ (∀ j, j < m → ¬(recW X j).limit < (runTo X l (k + 1)).worn j) ∧ ∃ x : ExtW W1, wr = x.w) (fun i _ => X.recs.length - (intOf i).toNat)
      case atStart => exact ⟨0, Nat.zero_le _, rfl, fun j hj => by omega, x, rfl⟩
      case round =>
        clear x
        obtain ⟨m, hm, rfl, hok, y, rfl⟩ := hrel
        have HOK := Lib.hid hok
        clear hok
        by_cases hml : m < X.recs.length
        · obtain ⟨rb, ro, q', c', rfl, -, r2, -⟩ := HG1.out m hml
          rw [show X.recs[m].limit = (recW X m).limit from by rw [recW_eq hml]] at r2
          obtain ⟨bi, oi, rfl, hci⟩ := H3.out.at m (by rw [HWL.out]; exact hml)
          rw [show (wornL X.recs.length (runTo X l (k + 1)).worn)[m]'(by rw [HWL.out]; exact hml) = (runTo X l (k + 1)).worn m from by simp [wornL]] at hci
          have u2 := ExtW.cell r2
          have u3 := ExtW.cell hci
          obtain ⟨lm, hlm⟩ : ∃ lm, lm = (recW X m).limit := ⟨_, rfl⟩
          obtain ⟨wn, hwn⟩ : ∃ wn, wn = (runTo X l (k + 1)).worn m := ⟨_, rfl⟩
          rw [← hlm] at u2
          rw [← hwn] at u3
          have HLM := Lib.hid hlm
          have HWN := Lib.hid hwn
          have hmI : (m : Int) < (X.recs.length : Int) := by omega
          clear r2 hci hlm hwn
          go_upto_region 8 with (fail)
          refine wp_region_extW (by kernel_rfl) (by kernel_rfl) ?_
          repeat (go_big_quiet_step (fail))
          refine wpQuiet_nil ?_
          rintro _ ⟨x3, rfl⟩
          clear hwk hk0 hkn
          by_cases hbad : lm < wn
          · go_wp2
            go_ret
            have hbk : badAt X l k = true := by
              unfold badAt
              rw [List.any_eq_true]
              exact ⟨m, List.mem_range.2 hml, by rw [decide_eq_true_eq, ← HLM.out, ← HWN.out]; exact hbad⟩
            have hfb := firstBad_some (X := X) (l := l) (k := k) (by omega) hbk HNO.out
            exact RetE.fin (HEW.out.trans x3.h) (by rw [hfb]; rfl)
          · go_wp2
            have hwk : IntKind.i64.wrap ((k : Int) + 1) = (k : Int) + 1 := HIX.out
            go_roundw
            case rel => exact ⟨m + 1, by omega, by go_num, fun j hj => by
              by_cases e : j = m
              · subst e; rw [← HLM.out, ← HWN.out]; exact hbad
              · exact HOK.out j (by omega), x3, rfl⟩
            case measure => simp [intOf]; omega
        · obtain rfl : m = X.recs.length := by omega
          clear hwk hk0 hkn
          go_wp2
          go_roundw
          case rel => exact ⟨k + 1, by omega, by go_num, fun j hj => by
            by_cases e : j = k
            · subst e
              unfold badAt
              rw [List.any_eq_false]
              intro i hi
              simpa using HOK.out i (List.mem_range.1 hi)
            · exact HNO.out j (by omega), y, rfl⟩
          case measure => simp [intOf]; omega
    · obtain rfl : k = l.length := by omega
      go_wp2
      go_ret
      have hfb := firstBad_none (X := X) (l := l) HNO.out
      exact RetE.fin (HEW.out.trans x.h) (by rw [hfb]; rfl)

/-- what the reference's Run returns -/
def RunPostR (X : Wr) (l : List Wk) (w : World) (e : Ending) (w' : World) : Prop :=
  Ext w w' ∧ ((ValidW X ∧ PlanOK X l ∧ ∃ v, e = .returned (.tuple #[v, .int .i64 (runTo X l l.length).age, .int .i64 (runTo X l l.length).cost, .int .i64 0]) ∧ IntsV w' v (wornL X.recs.length (runTo X l l.length).worn)) ∨
    (ValidW X ∧ ¬PlanOK X l ∧ e = .returned (.tuple #[.slice none 0 0, .int .i64 0, .int .i64 0, .int .i64 1])) ∨
    (¬ValidW X ∧ e = .returned (.tuple #[.slice none 0 0, .int .i64 0, .int .i64 0, .int .i64 30])))

set_option maxRecDepth 20000 in
set_option maxHeartbeats 8000000 in
theorem RunR03 (v : Value) (X : Wr) (pp : Option Addr) (l : List Wk) (pc : Nat) (w : World) (hv : WrV w v X) (hM : ModestW X) (hl : l.length ≤ 100000) (hr : ∀ x ∈ l, x.recs.length ≤ 100000) (h : WksAt w pp l) :
    Calls Try.prog 22 #[v, .slice pp l.length pc] w (RunPostR X l w) := by
  have hrm := hM.recs
  have HV := Lib.hid hv
  have HM := Lib.hid hM
  have HPL := Lib.hid h
  obtain ⟨p, cp, q, d, rfl, -, -⟩ := hv
  clear hM h
  go_enter Try.func22, Try.ntmps22
  go_upto_region 1 with (fail)
  generalize hW : World.alloc _ _ = W
  have hb0 : W.heap[w.heap.size]? = some (.cells #[.int .i64 X.weeks, .int .i64 X.price, .int .i64 X.age, .int .i64 X.step, .slice p X.rough.length cp, .slice q X.recs.length d] 25) := by rw [← hW]; exact heap_new _ _
  have hE : Ext w W := by rw [← hW]; exact Ext.alloc (Ext.refl w) _
  have q0 := ExtW.cell (v := .int .i64 X.weeks) (cell_of_heap hb0 0)
  have q1 := ExtW.cell (v := .int .i64 X.price) (cell_of_heap hb0 1)
  have q2 := ExtW.cell (v := .int .i64 X.age) (cell_of_heap hb0 2)
  have q3 := ExtW.cell (v := .int .i64 X.step) (cell_of_heap hb0 3)
  have q4 := ExtW.cell (v := .slice p X.rough.length cp) (cell_of_heap hb0 4)
  have q5 := ExtW.cell (v := .slice q X.recs.length d) (cell_of_heap hb0 5)
  have hvx := fun x : ExtW W => WrV.mono _ _ _ _ (hE.trans x.h) HV.out
  have HC := fun x : ExtW W => ExtW.call (rCheck03 _ X x.w (hvx x) HM.out)
  have HI := fun x : ExtW W => IsPlan03 _ X pp l pc x.w (hvx x) (by omega) (by omega) (fun y hy => by have := hr y hy; omega) (HPL.out.ext (hE.trans x.h))
  have HVX := Lib.hid hvx
  have HE := Lib.hid hE
  obtain ⟨x0, hx0⟩ := ExtW.of (Ext.refl W)
  clear hW hb0 hvx hr
  conv => arg 5; rw [hx0]
  clear hx0
  by_cases hX : ValidW X
  case neg =>
    rw [chkW_f hX] at HC
    have HC := Lib.hid HC
    clear HI
    go_wp2_with (go_at_call 20; refine (HC.out _).mono ?_; rintro e w' ⟨rfl, x1, rfl⟩)
    refine bodyPost_ret (v := .tuple #[.slice none 0 0, .int .i64 0, .int .i64 0, .int .i64 30]) (by simp [results, Try.results22, go_sem]) rfl ⟨HE.out.trans x1.h, Or.inr (Or.inr ⟨hX, rfl⟩)⟩
  rw [chkW_t hX] at HC
  have HC := Lib.hid HC
  by_cases hP : PlanOK X l
  case neg =>
    have HI := Lib.hid (fun x => ExtW.call (RetE.bf hP (HI x)))
    go_wp2_with (first | (go_at_call 20; refine (HC.out _).mono ?_; rintro e w' ⟨rfl, x1, rfl⟩) | (go_at_call 33; refine (HI.out _).mono ?_; rintro e w' ⟨rfl, x2, rfl⟩))
    refine bodyPost_ret (v := .tuple #[.slice none 0 0, .int .i64 0, .int .i64 0, .int .i64 1]) (by simp [results, Try.results22, go_sem]) rfl ⟨HE.out.trans x2.h, Or.inr (Or.inl ⟨hX, hP, rfl⟩)⟩
  have HI := Lib.hid (fun x => ExtW.call (RetE.bt hP (HI x)))
  have HA := Lib.hid (fun x : ExtW W => All03 _ X pp l pc x.w (HVX.out x) hX hP (HPL.out.ext (HE.out.trans x.h)))
  have hl6 := (modestP hX hP).1
  have HX := Lib.hid hX
  have HP := Lib.hid hP
  clear hX hP
  go_upto_region 7 with (first
    | (go_at_call 20; refine (HC.out _).mono ?_; rintro e w' ⟨rfl, x1, rfl⟩)
    | (go_at_call 33; refine (HI.out _).mono ?_; rintro e w' ⟨rfl, x2, rfl⟩)
    | (go_at_call 60; refine (HA.out _).mono ?_; rintro e W1 ⟨g, c, rfl, hE1, hpd⟩))
  obtain ⟨b, o, qq, cc, he, h1, h2, h3⟩ := hpd l.length (by rw [allTo_len]; omega)
  cases he
  have e : (allTo X l (l.length + 1))[l.length]'(by rw [allTo_len]; omega) = pdAt X l l.length := by simp [allTo]
  rw [e] at h1 h2 h3
  simp only [pdAt] at h1 h2 h3
  have hwl := wornL_len X.recs.length (runTo X l l.length).worn
  rw [hwl] at h1
  rw [Nat.zero_add] at h1 h2
  have hlw : IntKind.i64.wrap ((l.length : Int) + 1 - 1) = (l.length : Int) := by rw [show (l.length : Int) + 1 - 1 = (l.length : Int) by omega]; exact IntWalk.i64_in _ (by omega)
  have hlw2 : (l.length : Int) < (l.length : Int) + 1 := by omega
  have hlw3 : (0 : Int) ≤ (l.length : Int) := by omega
  have hEx := x2.h.trans hE1
  have r0 := ExtW.cell (q0 ⟨W1, hEx⟩)
  have r1 := ExtW.cell (q1 ⟨W1, hEx⟩)
  have r2 := ExtW.cell (q2 ⟨W1, hEx⟩)
  have r3 := ExtW.cell (q3 ⟨W1, hEx⟩)
  have r4 := ExtW.cell (q4 ⟨W1, hEx⟩)
  have r5 := ExtW.cell (q5 ⟨W1, hEx⟩)
  simp only at r0 r1 r2 r3 r4 r5
  have H3 := Lib.hid h3
  have HWL := Lib.hid hwl
  have HEX := Lib.hid hEx
  clear q0 q1 q2 q3 q4 q5 h3 hwl hEx hE1 hpd e HC HI HA x1
  go_upto_region 8 with (fail)
  obtain ⟨b10, hb10⟩ : ∃ b, b = W1.heap.size := ⟨_, rfl⟩
  generalize hW2 : World.alloc _ _ = W2
  have hn2 : W2.heap[b10]? = some (.cells #[.slice qq X.recs.length cc, .int .i64 (runTo X l l.length).age] 100) := by rw [← hW2, hb10]; exact heap_new _ _
  have hE2 : Ext W1 W2 := by rw [← hW2]; exact Ext.alloc (Ext.refl _) _
  have z0 := ExtW.cell (v := .slice qq X.recs.length cc) (cell_of_heap hn2 0)
  have z1 := ExtW.cell (v := .int .i64 (runTo X l l.length).age) (cell_of_heap hn2 1)
  have q0 := ExtW.cell (r0 ⟨W2, hE2⟩)
  have q1 := ExtW.cell (r1 ⟨W2, hE2⟩)
  have q2 := ExtW.cell (r2 ⟨W2, hE2⟩)
  have q3 := ExtW.cell (r3 ⟨W2, hE2⟩)
  have q4 := ExtW.cell (r4 ⟨W2, hE2⟩)
  have q5 := ExtW.cell (r5 ⟨W2, hE2⟩)
  simp only at q0 q1 q2 q3 q4 q5
  have hEx2 := HEX.out.trans hE2
  have HCS := Lib.hid (fun x : ExtW W2 => ExtW.call (Cost03 _ X pp l pc x.w (WrV.mono _ _ _ _ (HE.out.trans (hEx2.trans x.h)) HV.out) HX.out HP.out (HPL.out.ext (HE.out.trans (hEx2.trans x.h)))))
  have HEX2 := Lib.hid hEx2
  have HI3 := Lib.hid (H3.out.ext hE2)
  rw [← hb10]
  obtain ⟨x5, hx5⟩ := ExtW.of (Ext.refl W2)
  clear hW2 hn2 hE2 hEx2 r0 r1 r2 r3 r4 r5 h1 h2 hlw hlw2 hlw3 HEX H3 hb10
  conv => arg 5; rw [hx5]
  clear hx5
  refine wp_region_extW (by kernel_rfl) (by kernel_rfl) ?_
  repeat (go_big_quiet_step ((go_at_call 48; exact HCS.out _)))
  refine wpQuiet_nil ?_
  rintro _ ⟨x6, rfl⟩
  go_wp2
  refine bodyPost_ret (v := .tuple #[.slice qq X.recs.length cc, .int .i64 (runTo X l l.length).age, .int .i64 (costPl X l l.length), .int .i64 0]) (by simp [results, Try.results22, go_sem]) rfl ⟨HE.out.trans (HEX2.out.trans x6.h), Or.inl ⟨HX.out, HP.out, .slice qq X.recs.length cc, ?_, ?_⟩⟩
  · rw [run_cost HP.out _ (Nat.le_refl _)]
  · exact ⟨qq, cc, by rw [HWL.out], HI3.out.ext x6.h⟩

set_option maxRecDepth 20000 in
set_option maxHeartbeats 8000000 in
theorem GoodR03 (v : Value) (X : Wr) (pp : Option Addr) (l : List Wk) (pc : Nat) (w : World) (hv : WrV w v X) (hM : ModestW X) (hl : l.length ≤ 100000) (hr : ∀ x ∈ l, x.recs.length ≤ 100000) (h : WksAt w pp l) :
    Calls Try.prog 24 #[v, .slice pp l.length pc] w (RetE (goodV X l) w) := by
  have hrm := hM.recs
  have HV := Lib.hid hv
  have HM := Lib.hid hM
  have HPL := Lib.hid h
  obtain ⟨p, cp, q, d, rfl, -, -⟩ := hv
  clear hM h
  go_enter Try.func24, Try.ntmps24
  go_upto_region 1 with (fail)
  generalize hW : World.alloc _ _ = W
  have hb0 : W.heap[w.heap.size]? = some (.cells #[.int .i64 X.weeks, .int .i64 X.price, .int .i64 X.age, .int .i64 X.step, .slice p X.rough.length cp, .slice q X.recs.length d] 25) := by rw [← hW]; exact heap_new _ _
  have hE : Ext w W := by rw [← hW]; exact Ext.alloc (Ext.refl w) _
  have q0 := ExtW.cell (v := .int .i64 X.weeks) (cell_of_heap hb0 0)
  have q1 := ExtW.cell (v := .int .i64 X.price) (cell_of_heap hb0 1)
  have q2 := ExtW.cell (v := .int .i64 X.age) (cell_of_heap hb0 2)
  have q3 := ExtW.cell (v := .int .i64 X.step) (cell_of_heap hb0 3)
  have q4 := ExtW.cell (v := .slice p X.rough.length cp) (cell_of_heap hb0 4)
  have q5 := ExtW.cell (v := .slice q X.recs.length d) (cell_of_heap hb0 5)
  have hvx := fun x : ExtW W => WrV.mono _ _ _ _ (hE.trans x.h) HV.out
  have HC := fun x : ExtW W => ExtW.call (rCheck03 _ X x.w (hvx x) HM.out)
  have HI := fun x : ExtW W => IsPlan03 _ X pp l pc x.w (hvx x) (by omega) (by omega) (fun y hy => by have := hr y hy; omega) (HPL.out.ext (hE.trans x.h))
  have HVX := Lib.hid hvx
  have HE := Lib.hid hE
  obtain ⟨x0, hx0⟩ := ExtW.of (Ext.refl W)
  clear hW hb0 hvx hr
  conv => arg 5; rw [hx0]
  clear hx0
  by_cases hX : ValidW X
  case neg =>
    rw [chkW_f hX] at HC
    have HC := Lib.hid HC
    clear HI
    go_wp2_with (go_at_call 20; refine (HC.out _).mono ?_; rintro e w' ⟨rfl, x1, rfl⟩)
    refine bodyPost_ret (v := .tuple #[.bool false, .int .i64 0, .int .i64 30]) (by simp [results, Try.results24, go_sem]) rfl (RetE.fin (HE.out.trans x1.h) (goodV_bad hX).symm)
  rw [chkW_t hX] at HC
  have HC := Lib.hid HC
  by_cases hP : PlanOK X l
  case neg =>
    have HI := Lib.hid (fun x => ExtW.call (RetE.bf hP (HI x)))
    go_wp2_with (first | (go_at_call 20; refine (HC.out _).mono ?_; rintro e w' ⟨rfl, x1, rfl⟩) | (go_at_call 33; refine (HI.out _).mono ?_; rintro e w' ⟨rfl, x2, rfl⟩))
    refine bodyPost_ret (v := .tuple #[.bool false, .int .i64 0, .int .i64 1]) (by simp [results, Try.results24, go_sem]) rfl (RetE.fin (HE.out.trans x2.h) (goodV_arg hX hP).symm)
  have HI := Lib.hid (fun x => ExtW.call (RetE.bt hP (HI x)))
  have HA := Lib.hid (fun x : ExtW W => ExtW.call (FirstBadR03 _ X pp l pc x.w (HVX.out x) hX hP (HPL.out.ext (HE.out.trans x.h))))
  go_wp2_with (first
    | (go_at_call 20; refine (HC.out _).mono ?_; rintro e w' ⟨rfl, x1, rfl⟩)
    | (go_at_call 33; refine (HI.out _).mono ?_; rintro e w' ⟨rfl, x2, rfl⟩)
    | (go_at_call 47; refine (HA.out _).mono ?_; rintro e w' ⟨rfl, x3, rfl⟩))
  refine bodyPost_ret (v := .tuple #[.bool (decide (firstBad X l < 0)), .int .i64 (firstBad X l), .int .i64 0]) (by simp [results, Try.results24, go_sem]) rfl (RetE.fin (HE.out.trans x3.h) (goodV_ok hX hP).symm)
end Go.Proofs.Ytkcilgjkdiopnaa
