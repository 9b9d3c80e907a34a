
/- A carriage at its start, and how it goes on; its queue sorted. Trays: a carriage goes. Plays of a valid tray. The reference's Copy of a tray. How often each record of a tray is played. The walk of often. -/
import Derived.Test.YtppncdbhebgcaaaDoorYA
import Derived.Test.YtppncdbhebgcaaaDoorE4e
namespace Go.Proofs.YtppncdbhebgcaaaDoor
open Go.RowKit

/-- a carriage that has not begun -/
def startC (T : TrayD) (q : List (Int × Int)) : Car := { queue := q, pins := List.replicate (2 * T.recs.length) false, now := 0, pos := T.at_, way := T.way, plays := [] }
/-- all plays of a tray whose presses come in this order -/
def playsC (T : TrayD) (q : List (Int × Int)) : List (Int × Int) := (runC T.recs T.step 1000 (startC T q)).plays
theorem startC_ok {T : TrayD} (h : ValidY T) {q : List (Int × Int)} (hq : q.Perm T.prs) : CarOK T.recs.length 12 (startC T q) ∧ Bd T.recs.length (startC T q) 400 := by
  have hl := hq.length_eq
  have hn := h.np
  have h6 := h.n6
  have hc : (List.replicate (2 * T.recs.length) false).countP id = 0 := List.countP_eq_zero.2 fun x hx => by rw [(List.mem_replicate.1 hx).2]; decide
  refine ⟨⟨List.length_replicate, h.a0, h.an, h.wy, fun x hx => ?_, fun x hx => (List.not_mem_nil hx).elim, ?_⟩, 1, ?_, Or.inr (Or.inl ⟨hc, Nat.le_refl _⟩)⟩
  · have := h.pr x (hq.subset hx)
    exact ⟨this.1.1, this.1.2, this.2.1, this.2.2⟩
  · show 0 + q.length + (List.replicate (2 * T.recs.length) false).countP id ≤ 12
    omega
  · show (2 * q.length + (List.replicate (2 * T.recs.length) false).countP id) * (2 * T.recs.length + 2) + 1 ≤ 400
    rw [hc]
    have := Nat.mul_le_mul (show 2 * q.length + 0 ≤ 24 by omega) (show 2 * T.recs.length + 2 ≤ 14 by omega)
    omega
theorem act_now {T : TrayD} (h : ValidY T) {N : Nat} {c : Car} (hO : CarOK T.recs.length N c) (h0 : 0 ≤ c.now) : 0 ≤ (actC T.recs T.step c).1.now ∧ ((actC T.recs T.step c).1.now ≤ c.now + 1059 ∨ (actC T.recs T.step c).1.now ≤ 9999) := by
  have hP := hO.press
  have h1 := h.s0
  have h2 := h.s1
  have e0 : (pressC c).now = c.now := rfl
  have hplay : (pressC c).now ≤ (playC T.recs (pressC c)).now ∧ (playC T.recs (pressC c)).now ≤ (pressC c).now + 999 := by
    unfold playC
    split
    · have h3 := side_cyc hP
      have h4 : sideOf T.recs.length (cyc T.recs.length (pressC c)) < 2 * T.recs.length := by unfold sideOf; split <;> omega
      have hb := last_bd h (s := sideC (pressC c)) (by omega) (by omega)
      show (pressC c).now ≤ (pressC c).now + lastC T.recs (sideC (pressC c)) ∧ (pressC c).now + lastC T.recs (sideC (pressC c)) ≤ _
      omega
    · omega
  have hnext : (playC T.recs (pressC c)).now ≤ (nextC T.recs.length T.step (playC T.recs (pressC c))).now ∧ (nextC T.recs.length T.step (playC T.recs (pressC c))).now ≤ (playC T.recs (pressC c)).now + 60 := by
    unfold nextC
    split
    · show (playC T.recs (pressC c)).now ≤ (playC T.recs (pressC c)).now + T.step ∧ (playC T.recs (pressC c)).now + T.step ≤ _
      omega
    · show (playC T.recs (pressC c)).now ≤ (playC T.recs (pressC c)).now ∧ (playC T.recs (pressC c)).now ≤ _
      omega
  unfold actC
  split
  · simp only
    omega
  · split
    · simp only
      omega
    · next x q hq =>
      have := hP.qs x (by rw [hq]; exact List.mem_cons_self)
      simp only
      omega
/-- what holds of a carriage on its way, with at most so many acts to come -/
def RunY (w0 : World) (b gp : Nat) (T : TrayD) (P : TrP) (c0 : Car) (Y : Nat) (wr : World) : Prop :=
  ∃ (k : Nat) (cc : Car) (X : CarX), CarM w0 wr b gp T P cc X (1 + 3 * k) ∧ CarOK T.recs.length 12 cc ∧ Bd T.recs.length cc Y ∧ Y + k ≤ 400 ∧ 0 ≤ cc.now ∧ cc.now ≤ 10000 + 1100 * (k : Int) ∧ runC T.recs T.step (1000 - k) cc = runC T.recs T.step 1000 c0
theorem nat_min {Q : Nat → Prop} (h : ∃ n, Q n) : ∃ n, Q n ∧ ∀ k, Q k → n ≤ k := by
  obtain ⟨n, hn⟩ := h
  induction n using Nat.strongRecOn with
  | ind n ih =>
    by_cases c : ∃ k, k < n ∧ Q k
    · obtain ⟨k, hk, hq⟩ := c
      exact ih k hk hq
    · exact ⟨n, hn, fun k hk => by
        rcases Nat.lt_or_ge k n with h1 | h1
        · exact absurd ⟨k, h1, hk⟩ c
        · exact h1⟩
open Classical in
noncomputable def runMes (w0 : World) (b gp : Nat) (T : TrayD) (P : TrP) (c0 : Car) (wr : World) : Nat := if h : ∃ Y, RunY w0 b gp T P c0 Y wr then Classical.choose (nat_min h) else 0
theorem runMes_spec {w0 : World} {b gp : Nat} {T : TrayD} {P : TrP} {c0 : Car} {wr : World} (h : ∃ Y, RunY w0 b gp T P c0 Y wr) : RunY w0 b gp T P c0 (runMes w0 b gp T P c0 wr) wr := by
  unfold runMes
  rw [dif_pos h]
  exact (Classical.choose_spec (nat_min h)).1
theorem runMes_le {w0 : World} {b gp : Nat} {T : TrayD} {P : TrP} {c0 : Car} {wr : World} {Y : Nat} (h : RunY w0 b gp T P c0 Y wr) : runMes w0 b gp T P c0 wr ≤ Y := by
  unfold runMes
  rw [dif_pos ⟨Y, h⟩]
  exact (Classical.choose_spec (nat_min ⟨Y, h⟩)).2 _ h
/-- one act on -/
theorem RunY.step {w0 w' : World} {b gp : Nat} {T : TrayD} {P : TrP} {c0 cc : Car} {X' : CarX} {Y k : Nat} (hT : ValidY T) (hO : CarOK T.recs.length 12 cc) (hB : Bd T.recs.length cc Y) (hY : Y + k ≤ 400) (h0 : 0 ≤ cc.now) (h1 : cc.now ≤ 10000 + 1100 * (k : Int)) (hR : runC T.recs T.step (1000 - k) cc = runC T.recs T.step 1000 c0)
    (hM : CarM w0 w' b gp T P (actC T.recs T.step cc).1 X' (1 + 3 * k + 3)) (ha : (actC T.recs T.step cc).2 = true) : 1 ≤ Y ∧ RunY w0 b gp T P c0 (Y - 1) w' := by
  obtain ⟨a1, a2, a3⟩ := act_bd hO rfl hB ha
  have a4 := act_now hT hO h0
  refine ⟨a2, k + 1, _, X', hM.mono (by omega), a1, a3, by omega, a4.1, by omega, ?_⟩
  rw [show 1000 - k = (1000 - (k + 1)) + 1 by omega, runC, if_pos ha] at hR
  exact hR
theorem RunY.stop {T : TrayD} {c0 cc : Car} {Y k : Nat} (hY : Y + k ≤ 400) (hR : runC T.recs T.step (1000 - k) cc = runC T.recs T.step 1000 c0) (ha : (actC T.recs T.step cc).2 = false) : (actC T.recs T.step cc).1 = runC T.recs T.step 1000 c0 := by
  rw [show 1000 - k = (1000 - (k + 1)) + 1 by omega, runC, if_neg (by rw [ha]; decide)] at hR
  exact hR
/-- presses in a row of their own, or none -/
def ClQ (B : Nat) (l : List (Int × Int)) (qq : Option Addr) (cq : Nat) (w : World) : Prop :=
  (qq = none ∧ l = [] ∧ cq = 0) ∨ ∃ g, qq = some ⟨g, 0, none⟩ ∧ w.ownsRow B 77 2 (.slice (some ⟨g, 0, none⟩) l.length cq) l.length (pairVs l)
theorem ClQ.pairs {B cq : Nat} {l : List (Int × Int)} {qq : Option Addr} {w : World} (h : ClQ B l qq cq w) : PairsAt w qq l ∧ l.length ≤ cq ∧ ∀ a, qq = some a → B ≤ a.block ∧ a.block < w.heap.size ∧ ∃ cs f, w.heap[a.block]? = some (.cells cs 77 f) := by
  rcases h with ⟨rfl, rfl, rfl⟩ | ⟨g, rfl, ho⟩
  · exact ⟨PairsAt.nil _ _, Nat.zero_le _, fun a h => (by cases h)⟩
  · refine ⟨row_pairs ho, ?_, fun a ha => ?_⟩
    · rcases ho.2 with ⟨hv, -⟩ | ⟨g', cap, cur, hv, -, -, hc, -⟩
      · cases hv
      · cases hv; exact hc
    · cases ha
      rcases ho.2 with ⟨hv, -⟩ | ⟨g', cap, cur, hv, hB, hg, -⟩
      · cases hv
      · cases hv
        exact ⟨hB, (Array.getElem?_eq_some_iff.1 hg).1, _, _, hg⟩
/-- presses sorted in their place -/
def RetSq (B : Nat) (l : List (Int × Int)) (qq : Option Addr) (cq : Nat) (w : World) (e : Ending) (w' : World) : Prop :=
  e = .returned (.tuple #[]) ∧ ∃ l' g, l'.Perm l ∧ l'.Pairwise (fun x y => x.2 ≤ y.2) ∧ Ups g w w' ∧ (∀ a, qq = some a → a.block = g) ∧ (qq = none → w.heap.size ≤ g) ∧ ClQ B l' qq cq w'

set_option maxRecDepth 20000 in
set_option maxHeartbeats 3200000 in
theorem ins_nil (w : World) :
    Calls Tryd.prog 58 #[.slice none 0 0, .int .i64 0, .int .i64 0, .func (.func 43) #[] #[]] w (RetE (.tuple #[]) w) := by
  go_enter Tryd.func58, Tryd.ntmps58
  go_wp2
  refine wp_loop_rounds 1 ?_
  rw [rounds_succ]
  go_wp2
  (try simp only [Exit.inBlock, Exit.then])
  refine bodyPost_ret (results_none rfl _ _ _) rfl ?_
  exact RetE.fin (Ext.refl _) rfl
set_option maxRecDepth 20000 in
set_option maxHeartbeats 3200000 in
theorem stable_nil (w : World) :
    Calls Tryd.prog 51 #[.slice none 0 0, .int .i64 0, .func (.func 43) #[] #[]] w (RetE (.tuple #[]) w) := by
  have HI := Lib.hid (ins_nil w)
  go_enter Tryd.func51, Tryd.ntmps51
  go_wp2
  refine wp_loop_rounds 1 ?_
  rw [rounds_succ]
  go_wp2_with (go_at_call 58; refine HI.out.mono ?_; rintro e w2 ⟨rfl, hR⟩)
  refine wp_loop_rounds 1 ?_
  rw [rounds_succ]
  go_wp2
  (try simp only [Exit.inBlock, Exit.then])
  refine bodyPost_ret (results_none rfl _ _ _) rfl ?_
  exact ⟨rfl, hR⟩
set_option maxRecDepth 20000 in
set_option maxHeartbeats 1600000 in
theorem sort_nil (w : World) :
    Calls Tryd.prog 42 #[.slice none 0 0, .func (.func 43) #[] #[]] w (RetE (.tuple #[]) w) := by
  have HI := Lib.hid (stable_nil w)
  go_enter Tryd.func42, Tryd.ntmps42
  go_wp2_with (go_at_call 51; refine HI.out.mono ?_; rintro e w2 ⟨rfl, hR⟩)
  (try simp only [Exit.inBlock, Exit.then])
  refine bodyPost_ret (results_none rfl _ _ _) rfl ?_
  exact ⟨rfl, hR⟩
theorem sort_q {B cq : Nat} {l : List (Int × Int)} {qq : Option Addr} {w : World} (h : ClQ B l qq cq w) (hn : l.length ≤ 12) (ht : ∀ x ∈ l, 0 ≤ x.2 ∧ x.2 ≤ 9999) :
    Calls Tryd.prog 42 #[.slice qq l.length cq, .func (.func 43) #[] #[]] w (RetSq B l qq cq w) := by
  rcases h with ⟨rfl, rfl, rfl⟩ | ⟨g, rfl, ho⟩
  · refine (sort_nil w).mono ?_
    rintro e w' ⟨rfl, hE⟩
    exact ⟨rfl, [], w.heap.size, List.Perm.refl _, List.Pairwise.nil, Ups.ext hE, fun a h => (by cases h), fun _ => Nat.le_refl _, Or.inl ⟨rfl, rfl, rfl⟩⟩
  · refine (sort_p B g l.length cq l rfl hn w ho ht).mono ?_
    rintro e w' ⟨rfl, l', h1, h2, h3, h4⟩
    refine ⟨rfl, l', g, h1, h2, h3, fun a ha => (by cases ha; rfl), fun h => (by cases h), Or.inr ⟨g, rfl, ?_⟩⟩
    rw [h1.length_eq]
    exact h4
end Go.Proofs.YtppncdbhebgcaaaDoor
namespace Go.Proofs.YtppncdbhebgcaaaDoor
open Go.RowKit

theorem info_bool : (Tryd.prog.info? 4).map (fun i => (i.zero, i.size, i.bytes)) = some (some (.bool false), 1, 1) := by kernel_rfl
theorem make_b (n : Nat) (hn : n ≤ 1000) (w : World) : (Instr.makeSlice 97 (.int .i64 n) (.int .i64 n)).run Tryd.prog w = .ok (.slice (some ⟨w.heap.size, 0, none⟩) n n) (w.alloc (.cells (boolVs (List.replicate n false)) 4)) := by
  obtain ⟨i, hi, hz, hs, hb⟩ := info_parts info_bool
  have := run_make (P := Tryd.prog) w 97 4 i _ Tryd.underlying97 hi hz .i64 .i64 n n (by omega) (Int.le_refl _) (by rw [hb]; omega) (by omega)
  rw [this, hs]
  have e : madeCells (Value.bool false).cells (n * 1) = boolVs (List.replicate n false) := by
    apply Array.ext
    · simp [madeCells, boolVs]
    · intro j h1 h2
      simp [madeCells, Value.cells, Nat.mod_one, boolVs]
  simp only [Int.toNat_natCast, e]
/-- a copy of presses -/
def ClF (B : Nat) (l : List (Int × Int)) (v : Value) (_ _ : Nat) (w : World) : Prop := ∃ qq cq, v = .slice qq l.length cq ∧ ClQ B l qq cq w
theorem ClQ.ext {B cq : Nat} {l : List (Int × Int)} {qq : Option Addr} {w w' : World} (h : ClQ B l qq cq w) (hE : Ext w w') : ClQ B l qq cq w' := by
  rcases h with h | ⟨g, h1, h2⟩
  · exact Or.inl h
  · exact Or.inr ⟨g, h1, ownsRow_ext h2 hE⟩
theorem ClF.mono {B : Nat} {l : List (Int × Int)} : ∀ v s t w w', Ext w w' → ClF B l v s t w → ClF B l v s t w' := fun _ _ _ _ _ hE ⟨qq, cq, h1, h2⟩ => ⟨qq, cq, h1, h2.ext hE⟩
theorem ClF.of {B B' : Nat} {l : List (Int × Int)} {v : Value} {w : World} {s t : Nat} (h : (v = .slice none 0 0 ∧ l = []) ∨ RwB B' 77 l v 0 0 w) (hB : B ≤ B') : ClF B l v s t w := by
  rcases h with ⟨rfl, rfl⟩ | ⟨g, cn, rfl, ho⟩
  · exact ⟨none, 0, rfl, Or.inl ⟨rfl, rfl, rfl⟩⟩
  · exact ⟨_, cn, rfl, Or.inr ⟨g, rfl, ownsRow_base ho hB⟩⟩
/-- pins that are not set -/
def BlF (B n : Nat) (v : Value) (_ _ : Nat) (w : World) : Prop := ∃ g, v = .slice (some ⟨g, 0, none⟩) n n ∧ B ≤ g ∧ w.heap[g]? = some (.cells (boolVs (List.replicate n false)) 4)
theorem BlF.mono {B n : Nat} : ∀ v s t w w', Ext w w' → BlF B n v s t w → BlF B n v s t w' := fun _ _ _ _ _ hE ⟨g, h1, h2, h3⟩ => ⟨g, h1, h2, heap_ext3 h3 hE⟩
theorem goesEnd {W : World} {s : Nat} {a : Act} {x0 x1 x2 x3 : Value} {ty : TypeId} {R : Ending → World → Prop} (hm : W.heap[s]? = some (.cells #[x0, x1, x2, x3] ty))
    (ha : a.tmps[2]? = some (.pointer (some ⟨s, 0, none⟩))) (hd : a.defers = [])
    (h : R (.returned (.agg #[x0, x1, x2, x3])) W) : bodyPost Tryd.prog Tryd.f27 R .ret a W := by
  have c0 := cell_of_heap hm 0
  have c1 := cell_of_heap hm 1
  have c2 := cell_of_heap hm 2
  have c3 := cell_of_heap hm 3
  simp at c0 c1 c2 c3
  refine bodyPost_ret (v := .agg #[x0, x1, x2, x3]) ?_ hd h
  cases a with
  | mk tm df =>
    simp only at ha
    simp [results, Tryd.results27, go_sem, ha, c0, c1, c2, c3]
theorem ownsRow_sl {w : World} {B : Nat} {e : TypeId} {size : Nat} {v : Value} {n : Nat} {xs : List Value} (h : w.ownsRow B e size v n xs) : ∃ p c, v = .slice p n c := by
  rcases h.2 with ⟨hv, h0⟩ | ⟨g, cap, cur, hv, -⟩
  · exact ⟨none, 0, by rw [hv, h0]⟩
  · exact ⟨_, _, hv⟩
/-- what goes answers -/
def RetGo (T : TrayD) (w : World) (e : Ending) (w' : World) : Prop :=
  ∃ q uS uP st en, q.Perm T.prs ∧ q.Pairwise (fun x y => x.2 ≤ y.2) ∧ e = .returned (.agg #[uS, uP, .int .i64 st, .int .i64 en]) ∧ Ext w w' ∧ w'.ownsRow w.heap.size 62 2 uP (playsC T q).length (pairVs (playsC T q))

set_option maxRecDepth 20000 in
set_option maxHeartbeats 6400000 in
theorem goes02 {T : TrayD} {w : World} {P : TrP} (hT : ValidY T) (hp : PairsAt w P.pr T.recs) (hq : PairsAt w P.pp T.prs) :
    Calls Tryd.prog 27 #[.agg #[.slice P.pr T.recs.length P.cr, .int .i64 T.at_, .int .i64 T.way, .int .i64 T.step, .slice P.pp T.prs.length P.cp]] w (RetGo T w) := by
  have HT := Lib.hid hT
  have HP := Lib.hid hp
  have HQ := Lib.hid hq
  have hn6 := hT.n6
  have hnp := hT.np
  obtain ⟨n2, hn2⟩ : ∃ n2, n2 = 2 * T.recs.length := ⟨_, rfl⟩
  have HN2 := Lib.hid hn2
  have hw1 : IntKind.i64.wrap (2 * (T.recs.length : Int)) = (n2 : Int) := by rw [IntWalk.i64_in _ (by omega)]; omega
  have hmk := fun y => make_b n2 (by omega) y
  clear hT hp hq hn2
  go_enter Tryd.func27, Tryd.ntmps27
  go_upto_region 1 with (fail)
  obtain ⟨s0, hs0⟩ : ∃ s0, s0 = w.heap.size := ⟨_, rfl⟩
  obtain ⟨W0, hW0⟩ : ∃ W0, W0 = (w.alloc (.cells #[.slice P.pr T.recs.length P.cr, .int .i64 T.at_, .int .i64 T.way, .int .i64 T.step, .slice P.pp T.prs.length P.cp] 37)).alloc (.cells #[.slice none 0 0, .slice none 0 0, .int .i64 0, .int .i64 0] 81) := ⟨_, rfl⟩
  have m0 : W0.heap[s0]? = some (.cells #[.slice P.pr T.recs.length P.cr, .int .i64 T.at_, .int .i64 T.way, .int .i64 T.step, .slice P.pp T.prs.length P.cp] 37) := by rw [hs0, hW0]; exact heap_ext3 (heap_new _ _) ((Ext.refl _).alloc _)
  have m1 : W0.heap[s0 + 1]? = some (.cells #[.slice none 0 0, .slice none 0 0, .int .i64 0, .int .i64 0] 81) := by rw [hs0, hW0]; exact heap_new2 _ _ _
  have hE0 : Ext w W0 := by rw [hW0]; exact ((Ext.refl w).alloc _).alloc _
  have hsz : W0.heap.size = s0 + 2 := by rw [hW0, size_alloc, size_alloc, hs0]
  rw [← hs0, ← hW0]
  have HSS := Lib.hid (show s0 = w.heap.size ∧ W0.heap.size = s0 + 2 from ⟨hs0, hsz⟩)
  have HM1 := Lib.hid m1
  have HE0 := Lib.hid hE0
  have HKC := Lib.hid (fun y (h : Ext W0 y) => (by
    have h2 := heap_ext3 m0 h
    exact ⟨cell_of_heap h2 0, cell_of_heap h2 1, cell_of_heap h2 2, cell_of_heap h2 3, cell_of_heap h2 4⟩ :
    y.cell? ⟨s0, 0, none⟩ = some (.slice P.pr T.recs.length P.cr) ∧ y.cell? ⟨s0, 1, none⟩ = some (.int .i64 T.at_) ∧ y.cell? ⟨s0, 2, none⟩ = some (.int .i64 T.way) ∧ y.cell? ⟨s0, 3, none⟩ = some (.int .i64 T.step) ∧ y.cell? ⟨s0, 4, none⟩ = some (.slice P.pp T.prs.length P.cp)))
  have HCL := Lib.hid (fun y (h : Ext W0 y) => clone_p (p := P.pp) (c := P.cp) (HQ.out.ext (hE0.trans h)) (by omega))
  clear hW0 m0 m1 hE0 hs0 hsz
  refine wp_region_facts 14 [[], [], [1], [2], [], [4], [5], [6], [7, 7], [], [9], [], [11], [10, 12]] [0, 3, 8, 13] Ext (FL [Is (.agg #[.slice P.pr T.recs.length P.cr, .int .i64 T.at_, .int .i64 T.way, .int .i64 T.step, .slice P.pp T.prs.length P.cp]), Is (.pointer (some ⟨s0, 4, none⟩)), Is (.slice P.pp T.prs.length P.cp), ClF W0.heap.size T.prs, Is (.pointer (some ⟨s0, 0, none⟩)), Is (.slice P.pr T.recs.length P.cr), Is (.int .i64 (T.recs.length : Int)), Is (.int .i64 (n2 : Int)), BlF W0.heap.size n2, Is (.pointer (some ⟨s0, 1, none⟩)), Is (.int .i64 T.at_), Is (.pointer (some ⟨s0, 2, none⟩)), Is (.int .i64 T.way), Is (.agg #[.int .i64 T.at_, .int .i64 T.way, .int .i64 (-1)])]) (by kernel_rfl) (by kernel_rfl) Ext.refl (fun _ _ _ => Ext.trans) (fun _ _ => Ext.size) (FL.mono ⟨Is.mono, Is.mono, Is.mono, ClF.mono, Is.mono, Is.mono, Is.mono, Is.mono, BlF.mono, Is.mono, Is.mono, Is.mono, Is.mono, Is.mono, trivial⟩) ⟨?_, ?_, ?_, ?_, ?_, ?_, ?_, ?_, ?_, ?_, ?_, ?_, ?_, ?_, trivial⟩ ?_
  · refine opF_step ?_
    intro ys l0 h0 w' hr hf K hK
    clear hf
    obtain ⟨j0, j1, j2, j3, j4⟩ := HKC.out w' ((Ext.refl W0).drew.trans hr)
    simp only [fill, Act.put, dstO, List.take_succ_cons, List.take_zero, List.setIfInBounds_toArray, List.set_cons_zero, List.set_cons_succ, List.getElem?_cons_zero, Nat.zero_add, Nat.reduceAdd] at hK ⊢
    refine OpB.mk' ?_
    go_simp
    exact hK.out _ _ rfl (Ext.refl _)
  · refine opF_step ?_
    intro ys l0 h0 w' hr hf K hK
    clear hf
    simp only [fill, Act.put, dstO, List.take_succ_cons, List.take_zero, List.setIfInBounds_toArray, List.set_cons_zero, List.set_cons_succ, List.getElem?_cons_zero, List.getElem?_cons_succ, Nat.zero_add, Nat.reduceAdd] at hK ⊢
    refine OpB.mk' ?_
    go_simp
    exact hK.out _ _ rfl (Ext.refl _)
  · refine opF_step ?_
    intro ys l0 h0 w' hr hf K hK
    obtain ⟨f0, -⟩ := hf
    have e0 : ys 1 = _ := f0
    obtain ⟨j0, j1, j2, j3, j4⟩ := HKC.out w' ((Ext.refl W0).drew.trans hr)
    simp only [fill, Act.put, dstO, List.take_succ_cons, List.take_zero, List.setIfInBounds_toArray, List.set_cons_zero, List.set_cons_succ, List.getElem?_cons_zero, List.getElem?_cons_succ, Nat.zero_add, Nat.reduceAdd] at hK ⊢
    simp only [e0] at hK ⊢
    clear e0 f0
    refine OpB.mk' ?_
    go_simp
    exact hK.out _ _ rfl (Ext.refl _)
  · refine opF_step ?_
    intro ys l0 h0 w' hr hf K hK
    obtain ⟨f0, -⟩ := hf
    have e0 : ys 2 = _ := f0
    simp only [fill, Act.put, dstO, List.take_succ_cons, List.take_zero, List.setIfInBounds_toArray, List.set_cons_zero, List.set_cons_succ, List.getElem?_cons_zero, List.getElem?_cons_succ, Nat.zero_add, Nat.reduceAdd] at hK ⊢
    simp only [e0] at hK ⊢
    clear e0 f0
    refine OpB.mk' ?_
    go_simp
    refine (HCL.out w' ((Ext.refl W0).drew.trans hr)).mono ?_
    rintro e w2 ⟨v, rfl, hE2, hv⟩
    exact hK.out _ _ (ClF.of (s := 0) (t := 0) hv (by have := hr.size; exact this)) hE2
  · refine opF_step ?_
    intro ys l0 h0 w' hr hf K hK
    clear hf
    simp only [fill, Act.put, dstO, List.take_succ_cons, List.take_zero, List.setIfInBounds_toArray, List.set_cons_zero, List.set_cons_succ, List.getElem?_cons_zero, List.getElem?_cons_succ, Nat.zero_add, Nat.reduceAdd] at hK ⊢
    refine OpB.mk' ?_
    go_simp
    exact hK.out _ _ rfl (Ext.refl _)
  · refine opF_step ?_
    intro ys l0 h0 w' hr hf K hK
    obtain ⟨f0, -⟩ := hf
    have e0 : ys 4 = _ := f0
    obtain ⟨j0, j1, j2, j3, j4⟩ := HKC.out w' ((Ext.refl W0).drew.trans hr)
    simp only [fill, Act.put, dstO, List.take_succ_cons, List.take_zero, List.setIfInBounds_toArray, List.set_cons_zero, List.set_cons_succ, List.getElem?_cons_zero, List.getElem?_cons_succ, Nat.zero_add, Nat.reduceAdd] at hK ⊢
    simp only [e0] at hK ⊢
    clear e0 f0
    refine OpB.mk' ?_
    go_simp
    exact hK.out _ _ rfl (Ext.refl _)
  · refine opF_step ?_
    intro ys l0 h0 w' hr hf K hK
    obtain ⟨f0, -⟩ := hf
    have e0 : ys 5 = _ := f0
    simp only [fill, Act.put, dstO, List.take_succ_cons, List.take_zero, List.setIfInBounds_toArray, List.set_cons_zero, List.set_cons_succ, List.getElem?_cons_zero, List.getElem?_cons_succ, Nat.zero_add, Nat.reduceAdd] at hK ⊢
    simp only [e0] at hK ⊢
    clear e0 f0
    refine OpB.mk' ?_
    go_simp
    exact hK.out _ _ rfl (Ext.refl _)
  · refine opF_step ?_
    intro ys l0 h0 w' hr hf K hK
    obtain ⟨f0, -⟩ := hf
    have e0 : ys 6 = _ := f0
    simp only [fill, Act.put, dstO, List.take_succ_cons, List.take_zero, List.setIfInBounds_toArray, List.set_cons_zero, List.set_cons_succ, List.getElem?_cons_zero, List.getElem?_cons_succ, Nat.zero_add, Nat.reduceAdd] at hK ⊢
    simp only [e0] at hK ⊢
    clear e0 f0
    refine OpB.mk' ?_
    go_simp
    exact hK.out _ _ rfl (Ext.refl _)
  · refine opF_step ?_
    intro ys l0 h0 w' hr hf K hK
    obtain ⟨f0, f1, -⟩ := hf
    have e0 : ys 7 = _ := f0
    simp only [fill, Act.put, dstO, List.take_succ_cons, List.take_zero, List.setIfInBounds_toArray, List.set_cons_zero, List.set_cons_succ, List.getElem?_cons_zero, List.getElem?_cons_succ, Nat.zero_add, Nat.reduceAdd] at hK ⊢
    simp only [e0] at hK ⊢
    clear e0 f0 f1
    refine OpB.mk' ?_
    go_simp
    exact hK.out _ _ ⟨_, rfl, by have := hr.size; exact this, heap_new _ _⟩ (Ext.alloc (Ext.refl _) _)
  · refine opF_step ?_
    intro ys l0 h0 w' hr hf K hK
    clear hf
    simp only [fill, Act.put, dstO, List.take_succ_cons, List.take_zero, List.setIfInBounds_toArray, List.set_cons_zero, List.set_cons_succ, List.getElem?_cons_zero, List.getElem?_cons_succ, Nat.zero_add, Nat.reduceAdd] at hK ⊢
    refine OpB.mk' ?_
    go_simp
    exact hK.out _ _ rfl (Ext.refl _)
  · refine opF_step ?_
    intro ys l0 h0 w' hr hf K hK
    obtain ⟨f0, -⟩ := hf
    have e0 : ys 9 = _ := f0
    obtain ⟨j0, j1, j2, j3, j4⟩ := HKC.out w' ((Ext.refl W0).drew.trans hr)
    simp only [fill, Act.put, dstO, List.take_succ_cons, List.take_zero, List.setIfInBounds_toArray, List.set_cons_zero, List.set_cons_succ, List.getElem?_cons_zero, List.getElem?_cons_succ, Nat.zero_add, Nat.reduceAdd] at hK ⊢
    simp only [e0] at hK ⊢
    clear e0 f0
    refine OpB.mk' ?_
    go_simp
    exact hK.out _ _ rfl (Ext.refl _)
  · refine opF_step ?_
    intro ys l0 h0 w' hr hf K hK
    clear hf
    simp only [fill, Act.put, dstO, List.take_succ_cons, List.take_zero, List.setIfInBounds_toArray, List.set_cons_zero, List.set_cons_succ, List.getElem?_cons_zero, List.getElem?_cons_succ, Nat.zero_add, Nat.reduceAdd] at hK ⊢
    refine OpB.mk' ?_
    go_simp
    exact hK.out _ _ rfl (Ext.refl _)
  · refine opF_step ?_
    intro ys l0 h0 w' hr hf K hK
    obtain ⟨f0, -⟩ := hf
    have e0 : ys 11 = _ := f0
    obtain ⟨j0, j1, j2, j3, j4⟩ := HKC.out w' ((Ext.refl W0).drew.trans hr)
    simp only [fill, Act.put, dstO, List.take_succ_cons, List.take_zero, List.setIfInBounds_toArray, List.set_cons_zero, List.set_cons_succ, List.getElem?_cons_zero, List.getElem?_cons_succ, Nat.zero_add, Nat.reduceAdd] at hK ⊢
    simp only [e0] at hK ⊢
    clear e0 f0
    refine OpB.mk' ?_
    go_simp
    exact hK.out _ _ rfl (Ext.refl _)
  · refine opF_step ?_
    intro ys l0 h0 w' hr hf K hK
    obtain ⟨f0, f1, -⟩ := hf
    have e0 : ys 10 = _ := f0
    have e1 : ys 12 = _ := f1
    simp only [fill, Act.put, dstO, List.take_succ_cons, List.take_zero, List.setIfInBounds_toArray, List.set_cons_zero, List.set_cons_succ, List.getElem?_cons_zero, List.getElem?_cons_succ, Nat.zero_add, Nat.reduceAdd] at hK ⊢
    simp only [e0, e1] at hK ⊢
    clear e0 e1 f0 f1
    refine OpB.mk' ?_
    go_simp
    exact hK.out _ _ rfl (Ext.refl _)
  intro ys l0 h0 w2 hr hf hsp
  obtain ⟨f0, f3, f8, f13, -⟩ := hf
  have e0 : ys 0 = _ := f0
  obtain ⟨qq, cq, e3, hcq⟩ := f3
  obtain ⟨gp, e8, hgB, hgm⟩ := f8
  have e13 : ys 13 = _ := f13
  simp only [fill, Act.put, List.take_succ_cons, List.take_zero, List.setIfInBounds_toArray, List.set_cons_zero, List.set_cons_succ, Nat.zero_add, Nat.reduceAdd, List.drop_succ_cons, List.drop_zero]
  rw [e0, e13]
  clear e0 f0 e13 f13
  rw [e3]
  rw [e8]
  clear hsp
  have hE1 := (Ext.refl W0).drew.trans hr
  obtain ⟨b, hb⟩ : ∃ b, b = w2.heap.size := ⟨_, rfl⟩
  obtain ⟨W1, hW1⟩ : ∃ W1, W1 = w2.alloc (.cells #[.slice P.pr T.recs.length P.cr, .int .i64 T.at_, .int .i64 T.way, .int .i64 T.step, .slice P.pp T.prs.length P.cp, .slice qq T.prs.length cq, .slice (some ⟨gp, 0, none⟩) n2 n2, .int .i64 0, .int .i64 T.at_, .int .i64 T.way, .int .i64 (-1), .slice none 0 0, .slice none 0 0, .int .i64 0, .int .i64 0] 101) := ⟨_, rfl⟩
  obtain ⟨X0, hX0⟩ : ∃ X0 : CarX, X0 = { qq := qq, cq := cq, sd := -1, uS := .slice none 0 0, uP := .slice none 0 0, st := 0, en := 0, nS := 0, vS := [] } := ⟨_, rfl⟩
  obtain ⟨hs0, hsz⟩ := HSS.out
  have hpl : (startC T T.prs).pins.length = n2 := by show (List.replicate _ _).length = _; rw [List.length_replicate, HN2.out]
  have hgl : gp < w2.heap.size := (Array.getElem?_eq_some_iff.1 hgm).1
  have hEW : Ext w2 W1 := by rw [hW1]; exact (Ext.refl w2).alloc _
  obtain ⟨hc1, hc2, hc3⟩ := hcq.pairs
  have hM1 : CarM W0 W1 b gp T P (startC T T.prs) X0 0 := by
    refine ⟨⟨hE1.trans hEW, ?_, ?_, ?_, ?_, ?_, hgB, by omega⟩, ?_, ?_, ?_⟩
    · have e : carCells T P gp (startC T T.prs) X0 = #[.slice P.pr T.recs.length P.cr, .int .i64 T.at_, .int .i64 T.way, .int .i64 T.step, .slice P.pp T.prs.length P.cp, .slice qq T.prs.length cq, .slice (some ⟨gp, 0, none⟩) n2 n2, .int .i64 0, .int .i64 T.at_, .int .i64 T.way, .int .i64 (-1), .slice none 0 0, .slice none 0 0, .int .i64 0, .int .i64 0] := by
        unfold carCells; rw [hpl, hX0]; rfl
      rw [e, hb, hW1]
      exact heap_new _ _
    · rw [hX0]; exact hc1.ext hEW
    · rw [hX0]
      intro a ha
      obtain ⟨h1, h2, cs, f, h3⟩ := hc3 a ha
      refine ⟨by omega, fun e => ?_, h1⟩
      rw [e, hgm] at h3
      injection h3 with h4
      injection h4 with _ h5
      exact absurd h5 (by decide)
    · rw [hX0]; exact hc2
    · have e : boolVs (startC T T.prs).pins = boolVs (List.replicate n2 false) := by rw [HN2.out]; rfl
      rw [e]
      exact heap_ext3 hgm hEW
    · rw [hX0]; exact ⟨rfl, Or.inl ⟨rfl, rfl⟩⟩
    · rw [hX0]; exact ⟨rfl, Or.inl ⟨rfl, rfl⟩⟩
    · rw [hX0]; exact Nat.le_refl _
  have hcW := hcq.ext hEW
  have hx1 : X0.qq = qq ∧ X0.cq = cq := by rw [hX0]; exact ⟨rfl, rfl⟩
  have hbW : b < W1.heap.size := hM1.B.size
  have HSO := Lib.hid (sort_q hcW hnp (fun x hx => by have := (HT.out.pr x hx).2; omega))
  have HM1' := Lib.hid hM1
  have c5 : W1.cell? ⟨b, 5, none⟩ = some (.slice qq T.prs.length cq) := by
    have h5 := cell_of_heap hM1.B.m 5
    rw [show (carCells T P gp (startC T T.prs) X0)[5]? = some (.slice X0.qq T.prs.length X0.cq) from rfl, hx1.1, hx1.2] at h5
    exact h5
  have HBW := Lib.hid hbW
  have HX1 := Lib.hid hx1
  have HX0 := Lib.hid hX0
  go_upto_region 2 with (fail)
  rw [← hb, ← hW1]
  clear hr hE1 hW1 hb hX0 hpl hgl hEW hc1 hc2 hc3 hM1 hcW hx1 hbW hcq hgm hgB hs0 hsz e3 e8 hmk hw1 HKC HCL
  go_upto_region 3 with (go_at_call 42; refine HSO.out.mono ?_; rintro e W2 ⟨rfl, q, g, hq1, hq2, hU, hga, hgn, hcq⟩)
  have hM2 : CarM W0 W2 b gp T P (startC T q) X0 0 := by
    have hM1 := HM1'.out
    obtain ⟨x1, x2⟩ := HX1.out
    have hbs := HBW.out
    have hes := hM1.B.e.size
    have hg2 := hM1.B.hg
    have hq3 := hcq.pairs
    have hgg : W0.heap.size ≤ g ∧ b ≠ g ∧ gp ≠ g := by
      cases hqq : qq with
      | none => have := hgn hqq; omega
      | some a =>
        have h1 := hga a hqq
        have h2 := hM1.B.qb a (by rw [x1]; exact hqq)
        omega
    refine ⟨⟨((Ups.ext hM1.B.e : Ups g W0 W1).trans hU).own hgg.1, ?_, ?_, ?_, ?_, ?_, hM1.B.hb, hM1.B.hg⟩, ?_, ?_, hM1.nS⟩
    · rw [hU.block b hbs hgg.2.1, show carCells T P gp (startC T q) X0 = carCells T P gp (startC T T.prs) X0 from by unfold carCells; rw [show (startC T q).queue.length = (startC T T.prs).queue.length from hq1.length_eq]; rfl]
      exact hM1.B.m
    · rw [x1]; exact hq3.1
    · exact hM1.B.qb
    · rw [x2]; exact hq3.2.1
    · rw [hU.block gp (by omega) hgg.2.2]; exact hM1.B.p
    · rw [HX0.out]; exact ⟨rfl, Or.inl ⟨rfl, rfl⟩⟩
    · rw [HX0.out]; exact ⟨rfl, Or.inl ⟨rfl, rfl⟩⟩
  have HMK := Lib.hid (mark02 hM2 (by omega) (-1))
  have HQ1 := Lib.hid hq1
  have HQ2 := Lib.hid hq2
  clear hM2 hU hga hgn hcq c5 HSO HX0 hq1 hq2
  go_upto_region 4 with (go_at_call 44; refine HMK.out.mono ?_; rintro e W3 ⟨rfl, X3, hM3⟩)
  have hst := startC_ok HT.out HQ1.out
  have HR0 := Lib.hid (show RunY W0 b gp T P (startC T q) 400 W3 from ⟨0, _, X3, hM3.mono (by omega), hst.1, hst.2, by omega, Int.le_refl _, by show (0 : Int) ≤ _; omega, rfl⟩)
  clear HMK hM3 hst
  go_loopw [] (fun wr => ∃ Y, RunY W0 b gp T P (startC T q) Y wr) (fun wr => runMes W0 b gp T P (startC T q) wr)
  case atStart => exact ⟨400, HR0.out⟩
  case round =>
    obtain ⟨k, cc, X, hM, hO, hB, hY, h0, h1, hR⟩ := runMes_spec hrel
    obtain ⟨Y, hYY⟩ : ∃ Y, Y = runMes W0 b gp T P (startC T q) wr := ⟨_, rfl⟩
    rw [← hYY] at hB hY ⊢
    have HV := Lib.hid (show TyV W0 (.agg #[.slice P.pr T.recs.length P.cr, .int .i64 T.at_, .int .i64 T.way, .int .i64 T.step, .slice P.pp T.prs.length P.cp]) T from ⟨_, _, _, _, rfl, HP.out.ext HE0.out, HQ.out.ext HE0.out⟩)
    have HAC := Lib.hid (act02 hM (by omega) HT.out hO (by omega) h0 (by omega) HV.out)
    obtain ⟨av, hav⟩ : ∃ av, av = (actC T.recs T.step cc).2 := ⟨_, rfl⟩
    rw [← hav] at HAC
    have HAV := Lib.hid hav
    have HST := Lib.hid (⟨hO, hB, hY, h0, h1, hR⟩ : _ ∧ _ ∧ _ ∧ _ ∧ _ ∧ _)
    clear hM hO hB hY h0 h1 hR hav hrel HR0 hYY
    cases av with
    | true =>
      go_wp2_with (go_at_call 45; refine HAC.out.mono ?_; rintro e W4 ⟨rfl, X4, hM4⟩)
      obtain ⟨hO, hB, hY, h0, h1, hR⟩ := HST.out
      obtain ⟨hs1, hs2⟩ := RunY.step HT.out hO hB hY h0 h1 hR hM4 HAV.out.symm
      have := runMes_le hs2
      exact ⟨⟨_, hs2⟩, by omega⟩
    | false =>
      go_upto_region 5 with (go_at_call 45; refine HAC.out.mono ?_; rintro e W4 ⟨rfl, X4, hM4⟩)
      obtain ⟨hO, hB, hY, h0, h1, hR⟩ := HST.out
      have hend := RunY.stop hY hR HAV.out.symm
      rw [hend] at hM4
      obtain ⟨cf, hcf⟩ : ∃ cf, cf = runC T.recs T.step 1000 (startC T q) := ⟨_, rfl⟩
      rw [← hcf] at hM4
      have HCF := Lib.hid hcf
      obtain ⟨p1, k1, hs1⟩ := ownsRow_sl hM4.s
      obtain ⟨p2, k2, hs2⟩ := ownsRow_sl hM4.pl
      have c11 : W4.cell? ⟨b, 11, none⟩ = some (.slice p1 X4.nS k1) := by rw [← hs1]; exact cell_of_heap hM4.B.m 11
      have c12 : W4.cell? ⟨b, 12, none⟩ = some (.slice p2 cf.plays.length k2) := by rw [← hs2]; exact cell_of_heap hM4.B.m 12
      have c13 : W4.cell? ⟨b, 13, none⟩ = some (.int .i64 X4.st) := cell_of_heap hM4.B.m 13
      have c14 : W4.cell? ⟨b, 14, none⟩ = some (.int .i64 X4.en) := cell_of_heap hM4.B.m 14
      have m1 := heap_ext3 HM1.out hM4.B.e
      have d0 := cell_of_heap m1 0
      have d1 := cell_of_heap m1 1
      have d2 := cell_of_heap m1 2
      have d3 := cell_of_heap m1 3
      simp only [List.getElem?_toArray, List.getElem?_cons_zero, List.getElem?_cons_succ] at d0 d1 d2 d3
      have f0 := cell_frozen m1 0
      have f1 := cell_frozen m1 1
      have f2 := cell_frozen m1 2
      have f3 := cell_frozen m1 3
      have HM4 := Lib.hid hM4
      have HMM := Lib.hid m1
      have HS2 := Lib.hid hs2
      clear hM4 m1 hs1 hs2 hcf hO hB hY h0 h1 hR hend
      go_wp2
      obtain ⟨z0, z1⟩ := HSS.out
      have hM4 := HM4.out
      have hz2 := hM4.B.hg
      have hz3 := hM4.B.hb
      have hpl := hM4.pl
      rw [HS2.out] at hpl
      refine goesEnd (s := s0 + 1) (heap_quad HMM.out) rfl rfl ⟨q, _, _, _, _, HQ1.out, HQ2.out, rfl, ?_, ?_⟩
      · have hE := HE0.out.trans hM4.B.e
        refine Ext.setCell (Ext.setCell (Ext.setCell (Ext.setCell hE (p := ⟨s0 + 1, 0, none⟩) ?_ _) (p := ⟨s0 + 1, 1, none⟩) ?_ _) (p := ⟨s0 + 1, 2, none⟩) ?_ _) (p := ⟨s0 + 1, 3, none⟩) ?_ _ <;> (show w.heap.size ≤ s0 + 1; omega)
      · rw [show playsC T q = cf.plays from by rw [HCF.out]; rfl]
        exact ownsRow_base (ownsRow_off (ownsRow_off (ownsRow_off (ownsRow_off hpl (by omega)) (by omega)) (by omega)) (by omega)) (by omega)
end Go.Proofs.YtppncdbhebgcaaaDoor
namespace Go.Proofs.YtppncdbhebgcaaaDoor
open Go.RowKit

/-- all plays of a tray -/
def RetPl (T : TrayD) (w : World) (e : Ending) (w' : World) : Prop :=
  ∃ q p c, q.Perm T.prs ∧ q.Pairwise (fun x y => x.2 ≤ y.2) ∧ e = .returned (.tuple #[.slice p (playsC T q).length c, .int .i64 0]) ∧ Ext w w' ∧ w'.ownsRow w.heap.size 62 2 (.slice p (playsC T q).length c) (playsC T q).length (pairVs (playsC T q))

set_option maxRecDepth 20000 in
set_option maxHeartbeats 3200000 in
theorem plays02 {T : TrayD} {w : World} {v : Value} (hT : ValidY T) (hv : TyV w v T) :
    Calls Tryd.prog 15 #[v] w (RetPl T w) := by
  obtain ⟨p, c, q, d, rfl, hp, hq⟩ := hv
  obtain ⟨s0, hs0⟩ : ∃ s0, s0 = w.heap.size := ⟨_, rfl⟩
  obtain ⟨W0, hW0⟩ : ∃ W0, W0 = w.alloc (.cells #[.slice p T.recs.length c, .int .i64 T.at_, .int .i64 T.way, .int .i64 T.step, .slice q T.prs.length d] 37) := ⟨_, rfl⟩
  have m0 : W0.heap[s0]? = some (.cells #[.slice p T.recs.length c, .int .i64 T.at_, .int .i64 T.way, .int .i64 T.step, .slice q T.prs.length d] 37) := by rw [hs0, hW0]; exact heap_new _ _
  have hE0 : Ext w W0 := by rw [hW0]; exact (Ext.refl w).alloc _
  have HCK := Lib.hid (pCheck02 T (.agg #[.slice p T.recs.length c, .int .i64 T.at_, .int .i64 T.way, .int .i64 T.step, .slice q T.prs.length d]) W0 ⟨_, _, _, _, rfl, hp.ext hE0, hq.ext hE0⟩ hT)
  have HGO := Lib.hid (fun y (h : Ext W0 y) => goes02 (P := ⟨p, c, q, d⟩) hT (hp.ext (hE0.trans h)) (hq.ext (hE0.trans h)))
  have HE0 := Lib.hid hE0
  have a0 := cell_of_heap m0 0
  have a1 := cell_of_heap m0 1
  have a2 := cell_of_heap m0 2
  have a3 := cell_of_heap m0 3
  have a4 := cell_of_heap m0 4
  simp only [List.getElem?_toArray, List.getElem?_cons_zero, List.getElem?_cons_succ] at a0 a1 a2 a3 a4
  have HM0 := Lib.hid m0
  have hfd : ∀ (a b : Value) (s t : Int) (y : World), (Instr.field 81 (.agg #[a, b, .int .i64 s, .int .i64 t]) 1).run Tryd.prog y = .ok b y := fun _ _ _ _ _ => by kernel_rfl
  clear hp hq hT hE0 m0
  go_enter Tryd.func15, Tryd.ntmps15
  go_upto_region 1 with (fail)
  rw [← hs0, ← hW0]
  clear hs0 hW0
  go_upto_region 4 with (go_at_call 26; refine HCK.out.mono ?_; rintro e W1 ⟨rfl, hE1⟩)
  have HE1 := Lib.hid hE1
  have HG1 := Lib.hid (HGO.out W1 hE1)
  have m1 := heap_ext3 HM0.out hE1
  have b0 := cell_of_heap m1 0
  have b1 := cell_of_heap m1 1
  have b2 := cell_of_heap m1 2
  have b3 := cell_of_heap m1 3
  have b4 := cell_of_heap m1 4
  simp only [List.getElem?_toArray, List.getElem?_cons_zero, List.getElem?_cons_succ] at b0 b1 b2 b3 b4
  clear hE1 m1 a0 a1 a2 a3 a4 HGO HCK
  go_wp2_with (go_at_call 27; refine HG1.out.mono ?_; rintro e W2 ⟨qs, uS, uP, st, en, hq1, hq2, rfl, hE2, hO2⟩)
  (try apply_assumption)
  go_wp2
  go_ret2
  obtain ⟨p2, c2, rfl⟩ := ownsRow_sl hO2
  exact ⟨qs, p2, c2, hq1, hq2, rfl, (HE0.out.trans HE1.out).trans hE2, ownsRow_base hO2 (Nat.le_trans HE0.out.size HE1.out.size)⟩
end Go.Proofs.YtppncdbhebgcaaaDoor
namespace Go.Proofs.YtppncdbhebgcaaaDoor
open Go.RowKit

/-- a tray in memory of its own -/
def TyOwn (B : Nat) (w : World) (v : Value) (T : TrayD) : Prop :=
  ∃ g1 c1 g2 c2, v = .agg #[.slice (some ⟨g1, 0, none⟩) T.recs.length c1, .int .i64 T.at_, .int .i64 T.way, .int .i64 T.step, .slice (some ⟨g2, 0, none⟩) T.prs.length c2] ∧
    w.ownsRow B 54 2 (.slice (some ⟨g1, 0, none⟩) T.recs.length c1) T.recs.length (pairVs T.recs) ∧ w.ownsRow B 77 2 (.slice (some ⟨g2, 0, none⟩) T.prs.length c2) T.prs.length (pairVs T.prs)
theorem TyOwn.ty {B : Nat} {w : World} {v : Value} {T : TrayD} (h : TyOwn B w v T) : TyV w v T := by
  obtain ⟨g1, c1, g2, c2, e, h1, h2⟩ := h
  exact ⟨_, c1, _, c2, e, row_pairs h1, row_pairs h2⟩
theorem info_rec : (Tryd.prog.info? 54).map (fun i => (i.zero, i.size, i.bytes)) = some (some (.agg #[.int .i64 0, .int .i64 0]), 2, 16) := by kernel_rfl
theorem heap_quint {w : World} {b : Nat} {t : TypeId} {f : Nat × Nat} {a0 a1 a2 a3 a4 x y z u v : Value} (h : w.heap[b]? = some (.cells #[a0, a1, a2, a3, a4] t f)) :
    (((((w.setCell ⟨b, 0, none⟩ x).setCell ⟨b, 1, none⟩ y).setCell ⟨b, 2, none⟩ z).setCell ⟨b, 3, none⟩ u).setCell ⟨b, 4, none⟩ v).heap[b]? = some (.cells #[x, y, z, u, v] t f) := by
  exact heap_set (heap_set (heap_set (heap_set (heap_set h rfl) rfl) rfl) rfl) rfl
theorem copyEnd02 {W : World} {s : Nat} {a : Act} {y0 y1 y2 y3 y4 : Value} {t : TypeId} {R : Ending → World → Prop} (hm : W.heap[s]? = some (.cells #[y0, y1, y2, y3, y4] t)) (ha : a.tmps[2]? = some (.pointer (some ⟨s, 0, none⟩))) (hd : a.defers = [])
    (h : R (.returned (.agg #[y0, y1, y2, y3, y4])) W) : bodyPost Tryd.prog Tryd.f16 R .ret a W := by
  have c0 := cell_of_heap hm 0
  have c1 := cell_of_heap hm 1
  have c2 := cell_of_heap hm 2
  have c3 := cell_of_heap hm 3
  have c4 := cell_of_heap hm 4
  simp at c0 c1 c2 c3 c4
  refine bodyPost_ret (v := .agg #[y0, y1, y2, y3, y4]) ?_ hd h
  cases a with
  | mk tm df =>
    simp only at ha
    simp [results, Tryd.results16, go_sem, ha, c0, c1, c2, c3, c4]

set_option maxRecDepth 20000 in
set_option maxHeartbeats 1600000 in
theorem Copy02 (T : TrayD) (v : Value) (w : World) (hv : TyV w v T) (h1 : T.recs.length * 16 ≤ 140737488355328) (h2 : T.prs.length * 16 ≤ 140737488355328) :
    Calls Tryd.prog 16 #[v] w (fun e w' => ∃ u, e = .returned u ∧ Ext w w' ∧ TyOwn w.heap.size w' u T) := by
  obtain ⟨p, c, qq, d, rfl, hp, hq⟩ := hv
  have HP := Lib.hid (fun y (h : Ext w y) => hp.ext h)
  have HQ := Lib.hid (fun y (h : Ext w y) => hq.ext h)
  have HL := Lib.hid (And.intro h1 h2)
  clear hp hq h1 h2
  go_enter Tryd.func16, Tryd.ntmps16
  go_upto_region 1 with (fail)
  go_upto_region 2 with (fail)
  obtain ⟨s0, hs0⟩ : ∃ s0, s0 = w.heap.size := ⟨_, rfl⟩
  obtain ⟨W, hW⟩ : ∃ W, W = ((w.alloc (.cells #[.slice p T.recs.length c, .int .i64 T.at_, .int .i64 T.way, .int .i64 T.step, .slice qq T.prs.length d] 37)).alloc (.cells #[.slice none 0 0, .int .i64 0, .int .i64 0, .int .i64 0, .slice none 0 0] 37)).alloc (.cells #[.slice p T.recs.length c, .int .i64 T.at_, .int .i64 T.way, .int .i64 T.step, .slice qq T.prs.length d] 37) := ⟨_, rfl⟩
  have m0 : W.heap[s0]? = some (.cells #[.slice p T.recs.length c, .int .i64 T.at_, .int .i64 T.way, .int .i64 T.step, .slice qq T.prs.length d] 37) := by rw [hs0]; exact heap_at0 (by rw [hW]; exact (by repeat (first | exact Ext.refl _ | assumption | refine Ext.drewN ?_ _ | refine Ext.drew ?_ | refine Ext.alloc ?_ _)))
  have m1 : W.heap[s0 + 1]? = some (.cells #[.slice none 0 0, .int .i64 0, .int .i64 0, .int .i64 0, .slice none 0 0] 37) := by rw [hs0, hW, Below.heap_alloc _ _ _ (by rw [size_alloc, size_alloc]; omega)]; exact heap_new2 _ _ _
  have m2 : W.heap[s0 + 2]? = some (.cells #[.slice p T.recs.length c, .int .i64 T.at_, .int .i64 T.way, .int .i64 T.step, .slice qq T.prs.length d] 37) := by rw [hs0, hW]; exact heap_new3 _ _ _ _
  have hE : Ext w W := by rw [hW]; exact (by repeat (first | exact Ext.refl _ | assumption | refine Ext.drewN ?_ _ | refine Ext.drew ?_ | refine Ext.alloc ?_ _))
  rw [← hs0, ← hW]
  rw [show s0 + 1 + 1 = s0 + 2 from rfl]
  have HCE := Lib.hid (fun y (h : Ext W y) => (⟨h.cell (cell_of_heap m0 0), h.cell (cell_of_heap m0 4), heap_ext3 m1 h, heap_ext3 m2 h, hE.trans h⟩ :
    y.cell? ⟨s0, 0, none⟩ = some (.slice p T.recs.length c) ∧ y.cell? ⟨s0, 4, none⟩ = some (.slice qq T.prs.length d) ∧ y.heap[s0 + 1]? = some (.cells #[.slice none 0 0, .int .i64 0, .int .i64 0, .int .i64 0, .slice none 0 0] 37) ∧
    y.heap[s0 + 2]? = some (.cells #[.slice p T.recs.length c, .int .i64 T.at_, .int .i64 T.way, .int .i64 T.step, .slice qq T.prs.length d] 37) ∧ Ext w y))
  have HS := Lib.hid hs0
  have HSZ := Lib.hid hE.size
  clear hW m0 m1 m2 hE hs0
  refine wp_region_facts 9 [[], [], [1], [0, 2], [], [], [5], [4, 6], []] [3, 7, 8] Ext (FL [EmB W.heap.size 54, Is (.pointer (some ⟨s0, 0, none⟩)), Is (.slice p T.recs.length c), RwB W.heap.size 54 T.recs, EmB W.heap.size 77, Is (.pointer (some ⟨s0, 4, none⟩)), Is (.slice qq T.prs.length d), RwB W.heap.size 77 T.prs, Is (.pointer (some ⟨s0 + 2, 0, none⟩))]) (by kernel_rfl) (by kernel_rfl) Ext.refl (fun _ _ _ => Ext.trans) (fun _ _ => Ext.size) (FL.mono ⟨EmB.mono, Is.mono, Is.mono, RwB.mono, EmB.mono, Is.mono, Is.mono, RwB.mono, Is.mono, trivial⟩) ⟨?_, ?_, ?_, ?_, ?_, ?_, ?_, ?_, ?_, trivial⟩ ?_
  · refine opF_step ?_
    intro ys l0 h0 w' hr hf K hK
    clear hf
    simp only [fill, Act.put, dstO, List.take_succ_cons, List.take_zero, List.setIfInBounds_toArray, List.set_cons_zero, List.set_cons_succ, List.getElem?_cons_zero, Nat.zero_add, Nat.reduceAdd] at hK ⊢
    refine OpB.mk' ?_
    go_simp
    exact hK.out _ _ ⟨rfl, World.ownsRow_made w' #[] 0 (Ext.size ((Ext.refl W).drew.trans hr)) (by decide) rfl⟩ (Ext.alloc (Ext.refl _) _)
  · refine opF_step ?_
    intro ys l0 h0 w' hr hf K hK
    clear hf
    simp only [fill, Act.put, dstO, List.take_succ_cons, List.take_zero, List.setIfInBounds_toArray, List.set_cons_zero, List.set_cons_succ, List.getElem?_cons_zero, List.getElem?_cons_succ, Nat.zero_add, Nat.reduceAdd] at hK ⊢
    refine OpB.mk' ?_
    go_simp
    exact hK.out _ _ rfl (Ext.refl _)
  · refine opF_step ?_
    intro ys l0 h0 w' hr hf K hK
    obtain ⟨f0, -⟩ := hf
    have e0 : ys 1 = _ := f0
    obtain ⟨k0, k1, k2, k3, k4⟩ := HCE.out w' ((Ext.refl W).drew.trans hr)
    simp only [fill, Act.put, dstO, List.take_succ_cons, List.take_zero, List.setIfInBounds_toArray, List.set_cons_zero, List.set_cons_succ, List.getElem?_cons_zero, List.getElem?_cons_succ, Nat.zero_add, Nat.reduceAdd] at hK ⊢
    simp only [e0] at hK ⊢
    clear e0 f0
    refine OpB.mk' ?_
    go_simp
    exact hK.out _ _ rfl (Ext.refl _)
  · refine opF_step ?_
    intro ys l0 h0 w' hr hf K hK
    obtain ⟨⟨g0, o0⟩, f1, -⟩ := hf
    have e1 : ys 2 = _ := f1
    obtain ⟨k0, k1, k2, k3, k4⟩ := HCE.out w' ((Ext.refl W).drew.trans hr)
    rw [g0] at o0
    simp only [fill, Act.put, dstO, List.take_succ_cons, List.take_zero, List.setIfInBounds_toArray, List.set_cons_zero, List.set_cons_succ, List.getElem?_cons_zero, List.getElem?_cons_succ, Nat.zero_add, Nat.reduceAdd] at hK ⊢
    simp only [g0, e1] at hK ⊢
    clear e1 f1 g0
    refine OpB.mkG rfl (wp_pairs_of (.tmp 5) (.tmp 7) 34 54 rfl Tryd.underlying34 info_rec W.heap.size (l0 0) (Ext.size ((Ext.refl W).drew.trans hr)) rfl o0 p T.recs c rfl (HP.out w' k4) HL.out.1 ?_)
    intro u w2 hf2 hE2
    exact hK.out u w2 hf2 hE2
  · refine opF_step ?_
    intro ys l0 h0 w' hr hf K hK
    clear hf
    simp only [fill, Act.put, dstO, List.take_succ_cons, List.take_zero, List.setIfInBounds_toArray, List.set_cons_zero, List.set_cons_succ, List.getElem?_cons_zero, List.getElem?_cons_succ, Nat.zero_add, Nat.reduceAdd] at hK ⊢
    refine OpB.mk' ?_
    go_simp
    exact hK.out _ _ ⟨rfl, World.ownsRow_made w' #[] 0 (Ext.size ((Ext.refl W).drew.trans hr)) (by decide) rfl⟩ (Ext.alloc (Ext.refl _) _)
  · refine opF_step ?_
    intro ys l0 h0 w' hr hf K hK
    clear hf
    simp only [fill, Act.put, dstO, List.take_succ_cons, List.take_zero, List.setIfInBounds_toArray, List.set_cons_zero, List.set_cons_succ, List.getElem?_cons_zero, List.getElem?_cons_succ, Nat.zero_add, Nat.reduceAdd] at hK ⊢
    refine OpB.mk' ?_
    go_simp
    exact hK.out _ _ rfl (Ext.refl _)
  · refine opF_step ?_
    intro ys l0 h0 w' hr hf K hK
    obtain ⟨f0, -⟩ := hf
    have e0 : ys 5 = _ := f0
    obtain ⟨k0, k1, k2, k3, k4⟩ := HCE.out w' ((Ext.refl W).drew.trans hr)
    simp only [fill, Act.put, dstO, List.take_succ_cons, List.take_zero, List.setIfInBounds_toArray, List.set_cons_zero, List.set_cons_succ, List.getElem?_cons_zero, List.getElem?_cons_succ, Nat.zero_add, Nat.reduceAdd] at hK ⊢
    simp only [e0] at hK ⊢
    clear e0 f0
    refine OpB.mk' ?_
    go_simp
    exact hK.out _ _ rfl (Ext.refl _)
  · refine opF_step ?_
    intro ys l0 h0 w' hr hf K hK
    obtain ⟨⟨g0, o0⟩, f1, -⟩ := hf
    have e1 : ys 6 = _ := f1
    obtain ⟨k0, k1, k2, k3, k4⟩ := HCE.out w' ((Ext.refl W).drew.trans hr)
    rw [g0] at o0
    simp only [fill, Act.put, dstO, List.take_succ_cons, List.take_zero, List.setIfInBounds_toArray, List.set_cons_zero, List.set_cons_succ, List.getElem?_cons_zero, List.getElem?_cons_succ, Nat.zero_add, Nat.reduceAdd] at hK ⊢
    simp only [g0, e1] at hK ⊢
    clear e1 f1 g0
    refine OpB.mkG rfl (wp_pairs_of (.tmp 9) (.tmp 11) 35 77 rfl Tryd.underlying35 info_press W.heap.size (l0 4) (Ext.size ((Ext.refl W).drew.trans hr)) rfl o0 qq T.prs d rfl (HQ.out w' k4) HL.out.2 ?_)
    intro u w2 hf2 hE2
    exact hK.out u w2 hf2 hE2
  · refine opF_step ?_
    intro ys l0 h0 w' hr hf K hK
    clear hf
    simp only [fill, Act.put, dstO, List.take_succ_cons, List.take_zero, List.setIfInBounds_toArray, List.set_cons_zero, List.set_cons_succ, List.getElem?_cons_zero, List.getElem?_cons_succ, Nat.zero_add, Nat.reduceAdd] at hK ⊢
    refine OpB.mk' ?_
    go_simp
    exact hK.out _ _ rfl (Ext.refl _)
  intro ys l0 h0 w2 hr hf hsp
  obtain ⟨⟨g1, c1, e3, o3⟩, ⟨g2, c2, e7, o7⟩, f8, -⟩ := hf
  have e8 : ys 8 = _ := f8
  simp only [fill, Act.put, List.take_succ_cons, List.take_zero, List.setIfInBounds_toArray, List.set_cons_zero, List.set_cons_succ, Nat.zero_add, Nat.reduceAdd, List.drop_succ_cons, List.drop_zero]
  rw [e3] at o3
  rw [e7] at o7
  rw [e3, e7, e8]
  have HSZ2 := Lib.hid (show s0 + 2 < W.heap.size ∧ w.heap.size ≤ W.heap.size from ⟨(Array.getElem?_eq_some_iff.1 (HCE.out W (Ext.refl _)).2.2.2.1).1, HSZ.out⟩)
  obtain ⟨-, -, m1, m2, hE2⟩ := HCE.out w2 ((Ext.refl W).drew.trans hr)
  have O3 := Lib.hid o3
  have O7 := Lib.hid o7
  have M1 := Lib.hid m1
  have M2 := Lib.hid m2
  have HE2 := Lib.hid hE2
  have a0 : w2.cell? ⟨s0 + 2, 0, none⟩ = some (.slice p T.recs.length c) := cell_of_heap m2 0
  have a1 : w2.cell? ⟨s0 + 2, 4, none⟩ = some (.slice qq T.prs.length d) := cell_of_heap m2 4
  have b0 : w2.frozen? ⟨s0 + 2, 0, none⟩ = false := cell_frozen m2 0
  have b1 : w2.frozen? ⟨s0 + 2, 4, none⟩ = false := cell_frozen m2 4
  clear e3 e7 e8 f8 o3 o7 hsp hr m1 m2 hE2 HCE HP HQ HL HSZ
  go_upto_region 3 with (fail)
  obtain ⟨W3, hW3⟩ : ∃ W3, W3 = (w2.setCell ⟨s0 + 2, 0, none⟩ (.slice (some ⟨g1, 0, none⟩) T.recs.length c1)).setCell ⟨s0 + 2, 4, none⟩ (.slice (some ⟨g2, 0, none⟩) T.prs.length c2) := ⟨_, rfl⟩
  have n2 : W3.heap[s0 + 2]? = some (.cells #[.slice (some ⟨g1, 0, none⟩) T.recs.length c1, .int .i64 T.at_, .int .i64 T.way, .int .i64 T.step, .slice (some ⟨g2, 0, none⟩) T.prs.length c2] 37) := by rw [hW3]; exact heap_set (heap_set M2.out rfl) rfl
  have n1 : W3.heap[s0 + 1]? = some (.cells #[.slice none 0 0, .int .i64 0, .int .i64 0, .int .i64 0, .slice none 0 0] 37) := by rw [hW3]; exact heap_set_ne (by omega) (heap_set_ne (by omega) M1.out)
  have hE3 : Ext w W3 := by rw [hW3]; have := HS.out; exact Ext.setCell (Ext.setCell HE2.out (p := ⟨s0 + 2, 0, none⟩) (by show w.heap.size ≤ s0 + 2; omega) _) (p := ⟨s0 + 2, 4, none⟩) (by show w.heap.size ≤ s0 + 2; omega) _
  have O3b := Lib.hid (show W3.ownsRow W.heap.size 54 2 _ _ _ from by rw [hW3]; exact ownsRow_off (ownsRow_off O3.out HSZ2.out.1) HSZ2.out.1)
  have O7b := Lib.hid (show W3.ownsRow W.heap.size 77 2 _ _ _ from by rw [hW3]; exact ownsRow_off (ownsRow_off O7.out HSZ2.out.1) HSZ2.out.1)
  rw [← hW3]
  have a0 : W3.cell? ⟨s0 + 2, 0, none⟩ = some (.slice (some ⟨g1, 0, none⟩) T.recs.length c1) := cell_of_heap n2 0
  have a1 : W3.cell? ⟨s0 + 2, 1, none⟩ = some (.int .i64 T.at_) := cell_of_heap n2 1
  have a2 : W3.cell? ⟨s0 + 2, 2, none⟩ = some (.int .i64 T.way) := cell_of_heap n2 2
  have a3 : W3.cell? ⟨s0 + 2, 3, none⟩ = some (.int .i64 T.step) := cell_of_heap n2 3
  have a4 : W3.cell? ⟨s0 + 2, 4, none⟩ = some (.slice (some ⟨g2, 0, none⟩) T.prs.length c2) := cell_of_heap n2 4
  have d0 : W3.cell? ⟨s0 + 1, 0, none⟩ = some (.slice none 0 0) := cell_of_heap n1 0
  have d1 : W3.cell? ⟨s0 + 1, 1, none⟩ = some (.int .i64 0) := cell_of_heap n1 1
  have d2 : W3.cell? ⟨s0 + 1, 2, none⟩ = some (.int .i64 0) := cell_of_heap n1 2
  have d3 : W3.cell? ⟨s0 + 1, 3, none⟩ = some (.int .i64 0) := cell_of_heap n1 3
  have d4 : W3.cell? ⟨s0 + 1, 4, none⟩ = some (.slice none 0 0) := cell_of_heap n1 4
  have b0 : W3.frozen? ⟨s0 + 1, 0, none⟩ = false := cell_frozen n1 0
  have b1 : W3.frozen? ⟨s0 + 1, 1, none⟩ = false := cell_frozen n1 1
  have b2 : W3.frozen? ⟨s0 + 1, 2, none⟩ = false := cell_frozen n1 2
  have b3 : W3.frozen? ⟨s0 + 1, 3, none⟩ = false := cell_frozen n1 3
  have b4 : W3.frozen? ⟨s0 + 1, 4, none⟩ = false := cell_frozen n1 4
  have N1 := Lib.hid n1
  have HE3 := Lib.hid hE3
  clear hW3 n1 n2 hE3 O3 O7 M1 M2 HE2
  go_wp2
  refine copyEnd02 (heap_quint N1.out) rfl rfl ⟨_, rfl, ?_, g1, c1, g2, c2, rfl, ?_, ?_⟩
  · have hs := HS.out
    exact Ext.setCell (Ext.setCell (Ext.setCell (Ext.setCell (Ext.setCell (HE3.out) (p := ⟨s0 + 1, 0, none⟩) (by show w.heap.size ≤ s0 + 1; omega) _) (p := ⟨s0 + 1, 1, none⟩) (by show w.heap.size ≤ s0 + 1; omega) _) (p := ⟨s0 + 1, 2, none⟩) (by show w.heap.size ≤ s0 + 1; omega) _) (p := ⟨s0 + 1, 3, none⟩) (by show w.heap.size ≤ s0 + 1; omega) _) (p := ⟨s0 + 1, 4, none⟩) (by show w.heap.size ≤ s0 + 1; omega) _
  · have h := HSZ2.out.1
    exact ownsRow_base (ownsRow_off (ownsRow_off (ownsRow_off (ownsRow_off (ownsRow_off (O3b.out) (by omega)) (by omega)) (by omega)) (by omega)) (by omega)) HSZ2.out.2
  · have h := HSZ2.out.1
    exact ownsRow_base (ownsRow_off (ownsRow_off (ownsRow_off (ownsRow_off (ownsRow_off (O7b.out) (by omega)) (by omega)) (by omega)) (by omega)) (by omega)) HSZ2.out.2
end Go.Proofs.YtppncdbhebgcaaaDoor
namespace Go.Proofs.YtppncdbhebgcaaaDoor
open Go.RowKit

theorem runC_ok {n N : Nat} {R : List (Int × Int)} {st : Int} (hR : R.length = n) : ∀ (f : Nat) (c : Car), CarOK n N c → CarOK n N (runC R st f c) := by
  intro f
  induction f with
  | zero => intro c h; exact h
  | succ f ih =>
    intro c h
    unfold runC
    split
    · exact ih _ (act_ok h hR)
    · exact act_ok h hR
/-- there are no more plays than presses, and each is of a side -/
theorem plays_le {T : TrayD} (h : ValidY T) {q : List (Int × Int)} (hq : q.Perm T.prs) : (playsC T q).length ≤ T.prs.length ∧ ∀ x ∈ playsC T q, 0 ≤ x.1 ∧ x.1 < 2 * (T.recs.length : Int) := by
  have hl := hq.length_eq
  have hc : (List.replicate (2 * T.recs.length) false).countP id = 0 := List.countP_eq_zero.2 fun x hx => by rw [(List.mem_replicate.1 hx).2]; decide
  have h0 : CarOK T.recs.length T.prs.length (startC T q) := by
    refine ⟨List.length_replicate, h.a0, h.an, h.wy, fun x hx => ?_, fun x hx => (List.not_mem_nil hx).elim, ?_⟩
    · have := h.pr x (hq.subset hx)
      exact ⟨this.1.1, this.1.2, this.2.1, this.2.2⟩
    · show 0 + q.length + (List.replicate (2 * T.recs.length) false).countP id ≤ _
      omega
  have h1 := runC_ok (st := T.step) rfl 1000 _ h0
  exact ⟨by have := h1.cnt; unfold playsC; omega, h1.ps⟩
/-- how often each record is played -/
def cntY (n : Nat) (l : List (Int × Int)) : List Int := (List.range n).map fun i : Nat => ((l.countP (fun x => x.1.tdiv 2 == (i : Int)) : Nat) : Int)
theorem cntY_len (n : Nat) (l : List (Int × Int)) : (cntY n l).length = n := by simp [cntY]
theorem cntY_zero (n : Nat) : cntY n [] = List.replicate n 0 := by
  apply List.ext_getElem
  · simp [cntY]
  · intro i h1 h2; simp [cntY]
theorem cntY_at {n : Nat} {l : List (Int × Int)} {i : Nat} (h : i < (cntY n l).length) : (cntY n l)[i] = ((l.countP (fun x => x.1.tdiv 2 == (i : Int)) : Nat) : Int) := by simp [cntY]
theorem cntY_snoc {n : Nat} {l : List (Int × Int)} {x : Int × Int} {k : Nat} (hk : x.1.tdiv 2 = (k : Int)) (hn : k < (cntY n l).length) : (cntY n l).set k ((cntY n l)[k] + 1) = cntY n (l ++ [x]) := by
  apply List.ext_getElem
  · simp [cntY]
  · intro i h1 h2
    rw [List.getElem_set]
    by_cases e : k = i
    · subst e
      rw [if_pos rfl, cntY_at, cntY_at, List.countP_append, List.countP_singleton, hk]
      simp
    · rw [if_neg e, cntY_at, cntY_at, List.countP_append, List.countP_singleton, hk]
      have : ¬((k : Int) == (i : Int)) = true := by simp; omega
      rw [if_neg this]
      simp
theorem cntY_le {n : Nat} {l : List (Int × Int)} {i : Nat} (h : i < (cntY n l).length) : 0 ≤ (cntY n l)[i] ∧ (cntY n l)[i] ≤ l.length := by
  rw [cntY_at]
  have := List.countP_le_length (p := fun x : Int × Int => x.1.tdiv 2 == (i : Int)) (l := l)
  omega
def RetOf (T : TrayD) (w : World) (e : Ending) (w' : World) : Prop :=
  ∃ q g, q.Perm T.prs ∧ q.Pairwise (fun x y => x.2 ≤ y.2) ∧ e = .returned (.tuple #[.slice (some ⟨g, 0, none⟩) T.recs.length T.recs.length, .bool true]) ∧ Ext w w' ∧
    w'.ownsRow w.heap.size 3 1 (.slice (some ⟨g, 0, none⟩) T.recs.length T.recs.length) T.recs.length (intVs (cntY T.recs.length (playsC T q)))

set_option maxRecDepth 20000 in
set_option maxHeartbeats 3200000 in
theorem far02 (T : TrayD) (v : Value) (w : World) (hv : TyV w v T) : Calls Tryd.prog 5 #[v] w (RetE (.bool (decide (40 < T.recs.length) || decide (40 < T.prs.length))) w) := by
  obtain ⟨p, c, q, d, rfl, hp, hq⟩ := hv
  clear hp hq
  obtain ⟨n, hn⟩ : ∃ n, n = T.recs.length := ⟨_, rfl⟩
  obtain ⟨m, hm⟩ : ∃ m, m = T.prs.length := ⟨_, rfl⟩
  rw [← hn, ← hm]
  clear hn hm
  have hE := (Ext.refl w).alloc (.cells #[.slice p n c, .int .i64 T.at_, .int .i64 T.way, .int .i64 T.step, .slice q m d] 37)
  have HE := Lib.hid hE
  clear hE
  by_cases h1 : 40 < n
  · have h1' : (40 : Int) < (n : Int) := by omega
    rw [decide_eq_true h1, Bool.true_or]
    go_enter Tryd.func5, Tryd.ntmps5
    go_wp2
    go_ret
    exact RetE.fin HE.out rfl
  · have h1' : ¬(40 : Int) < (n : Int) := by omega
    rw [decide_eq_false h1, Bool.false_or]
    by_cases h2 : 40 < m
    · have h2' : (40 : Int) < (m : Int) := by omega
      rw [decide_eq_true h2]
      go_enter Tryd.func5, Tryd.ntmps5
      go_wp2
      go_ret
      exact RetE.fin HE.out rfl
    · have h2' : ¬(40 : Int) < (m : Int) := by omega
      rw [decide_eq_false h2]
      go_enter Tryd.func5, Tryd.ntmps5
      go_wp2
      go_ret
      exact RetE.fin HE.out rfl
end Go.Proofs.YtppncdbhebgcaaaDoor
namespace Go.Proofs.YtppncdbhebgcaaaDoor
open Go.RowKit

theorem intVs_get {l : List Int} {i : Nat} (h : i < l.length) : (intVs l)[i]? = some (.int .i64 l[i]) := by simp [intVs, h]

set_option maxRecDepth 20000 in
set_option maxHeartbeats 6400000 in
theorem often02 {T : TrayD} {w : World} {v : Value} (hT : ValidY T) (hv : TyV w v T) :
    Calls Tryd.prog 7 #[v] w (RetOf T w) := by
  obtain ⟨p, c, q, d, rfl, hp, hq⟩ := hv
  have hn6 := hT.n6
  have hnp := hT.np
  obtain ⟨n, hn⟩ : ∃ n, n = T.recs.length := ⟨_, rfl⟩
  have HN := Lib.hid hn
  obtain ⟨tv, htv⟩ : ∃ tv : Value, tv = .agg #[.slice p n c, .int .i64 T.at_, .int .i64 T.way, .int .i64 T.step, .slice q T.prs.length d] := ⟨_, rfl⟩
  obtain ⟨s0, hs0⟩ : ∃ s0, s0 = w.heap.size := ⟨_, rfl⟩
  obtain ⟨W0, hW0⟩ : ∃ W0, W0 = w.alloc (.cells #[.slice p n c, .int .i64 T.at_, .int .i64 T.way, .int .i64 T.step, .slice q T.prs.length d] 37) := ⟨_, rfl⟩
  have m0 : W0.heap[s0]? = some (.cells #[.slice p n c, .int .i64 T.at_, .int .i64 T.way, .int .i64 T.step, .slice q T.prs.length d] 37) := by rw [hs0, hW0]; exact heap_new _ _
  have hE0 : Ext w W0 := by rw [hW0]; exact (Ext.refl w).alloc _
  have HTV := Lib.hid (fun y (h : Ext W0 y) => (by rw [htv, hn]; exact ⟨_, _, _, _, rfl, hp.ext (hE0.trans h), hq.ext (hE0.trans h)⟩ : TyV y tv T))
  have HPLL := Lib.hid (fun (q' : List (Int × Int)) (hq' : q'.Perm T.prs) => plays_le hT hq')
  have HT := Lib.hid hT
  have HE0 := Lib.hid hE0
  have HM0 := Lib.hid m0
  have HCE := Lib.hid (fun y (h : Ext W0 y) => (by
    have h2 := heap_ext3 m0 h
    exact ⟨cell_of_heap h2 0, cell_of_heap h2 1, cell_of_heap h2 2, cell_of_heap h2 3, cell_of_heap h2 4⟩ :
    y.cell? ⟨s0, 0, none⟩ = some (.slice p n c) ∧ y.cell? ⟨s0, 1, none⟩ = some (.int .i64 T.at_) ∧ y.cell? ⟨s0, 2, none⟩ = some (.int .i64 T.way) ∧ y.cell? ⟨s0, 3, none⟩ = some (.int .i64 T.step) ∧ y.cell? ⟨s0, 4, none⟩ = some (.slice q T.prs.length d)))
  obtain ⟨a0, a1, a2, a3, a4⟩ := HCE.out W0 (Ext.refl _)
  rw [← hn] at hn6 ⊢
  have hmk := fun y => make_i n (by omega) y
  have HV := Lib.hid htv
  clear hp hq hT hE0 m0 hn
  clear htv
  go_enter Tryd.func7, Tryd.ntmps7
  go_upto_region 1 with (fail)
  rw [← hs0, ← hW0]
  have HS0 := Lib.hid hs0
  clear hs0 hW0
  go_upto_region 2 with (fail)
  obtain ⟨g, hg⟩ : ∃ g, g = W0.heap.size := ⟨_, rfl⟩
  obtain ⟨W1, hW1⟩ : ∃ W1, W1 = W0.alloc (.cells (Array.replicate n (.int .i64 0)) 3) := ⟨_, rfl⟩
  have hO1 : W1.ownsRow W0.heap.size 3 1 (.slice (some ⟨g, 0, none⟩) n n) n (intVs (cntY n [])) := by
    rw [cntY_zero, hW1, hg]
    exact own_made_i W0 _ _ (Nat.le_refl _) (by omega)
  have hE1 : Ext W0 W1 := by rw [hW1]; exact (Ext.refl W0).alloc _
  have hgs : g < W1.heap.size := by rw [hW1, size_alloc, hg]; omega
  have hgB : W0.heap.size ≤ g := by omega
  rw [← hg, ← hW1]
  obtain ⟨b0, b1, b2, b3, b4⟩ := HCE.out W1 hE1
  have HCP := Lib.hid (by have := Copy02 T tv W1 (HTV.out W1 hE1) (by have := HN.out; omega) (by omega); rw [HV.out] at this; exact this :
    Calls Tryd.prog 16 #[.agg #[.slice p n c, .int .i64 T.at_, .int .i64 T.way, .int .i64 T.step, .slice q T.prs.length d]] W1 (fun e w' => ∃ u, e = .returned u ∧ Ext W1 w' ∧ TyOwn W1.heap.size w' u T))
  have HO1 := Lib.hid hO1
  have HE1 := Lib.hid hE1
  clear hg hW1 hO1 hE1 hmk a0 a1 a2 a3 a4
  go_upto_region 3 with (first
    | (go_at_call 16; refine HCP.out.mono ?_; rintro e W2 ⟨u, rfl, hE2, hu⟩)
    | (go_at_call 15; refine (plays02 HT.out hu.ty).mono ?_; rintro e W3 ⟨qs, p2, c2, hq1, hq2, rfl, hE3, hO3⟩))
  obtain ⟨pl, hpl⟩ : ∃ pl, pl = playsC T qs := ⟨_, rfl⟩
  have hle := HPLL.out qs hq1
  rw [← hpl] at hO3 hle ⊢
  have hle1 := hle.1
  have hle2 : ¬((T.prs.length : Int) < (pl.length : Int)) := by omega
  have hE4 := hE2.trans hE3
  have HSD := Lib.hid hle.2
  have HQ1 := Lib.hid hq1
  have HQ2 := Lib.hid hq2
  have HPL := Lib.hid hpl
  have HO3 := Lib.hid hO3
  have hgB2 : g < W2.heap.size := Nat.lt_of_lt_of_le hgs hE2.size
  have HO1 := Lib.hid (ownsRow_ext HO1.out hE4)
  have HE4 := Lib.hid (HE1.out.trans hE4)
  obtain ⟨d0, d1, d2, d3, d4⟩ := HCE.out W3 (HE1.out.trans hE4)
  clear hE2 hE3 hE4 hu hq1 hq2 hpl hO3 hle b0 b1 b2 b3 b4 HCP hgs
  go_wp2
  go_loopw [7] (fun a wr => ∃ k : Nat, k ≤ pl.length ∧ a = .int .i64 k ∧ Ext W0 wr ∧ wr.ownsRow W0.heap.size 3 1 (.slice (some ⟨g, 0, none⟩) n n) n (intVs (cntY n (pl.take k))) ∧ wr.ownsRow W2.heap.size 62 2 (.slice p2 pl.length c2) pl.length (pairVs pl)) (fun a _ => pl.length - (intOf a).toNat)
  case atStart => exact ⟨0, Nat.zero_le _, rfl, HE4.out, HO1.out, HO3.out⟩
  case round =>
    obtain ⟨k, hk, rfl, hE, hO, hP⟩ := hrel
    have HEK := Lib.hid hE
    have HOK := Lib.hid hO
    have HPK := Lib.hid hP
    by_cases hlt : k < pl.length
    · have hlt' : (k : Int) < (pl.length : Int) := by omega
      obtain ⟨g3, rfl⟩ : ∃ g3, p2 = some ⟨g3, 0, none⟩ := by
        rcases hP.2 with ⟨hv, h0⟩ | ⟨g', cap, cur, hv, -⟩
        · omega
        · injection hv with h1; exact ⟨g', h1⟩
      obtain ⟨e0, -, -, -⟩ := ownsRow_cellP hP (i := k) hlt
      have hxb := HSD.out pl[k] (List.getElem_mem hlt)
      obtain ⟨x, hx⟩ : ∃ x, x = pl[k] := ⟨_, rfl⟩
      have htk : pl.take (k + 1) = pl.take k ++ [x] := by rw [hx]; exact (List.take_append_getElem hlt).symm
      rw [← hx] at e0 hxb
      have hd : Int.tdiv x.1 2 = x.1 / 2 := Int.tdiv_eq_ediv_of_nonneg hxb.1
      obtain ⟨j, hj⟩ : ∃ j : Nat, x.1 / 2 = j := ⟨(x.1 / 2).toNat, by omega⟩
      have hdj : Int.tdiv x.1 2 = (j : Int) := by rw [hd, hj]
      have hjn : j < n := by have := HN.out; omega
      have hjl : j < (cntY n (pl.take k)).length := by rw [cntY_len]; exact hjn
      have hsn := cntY_snoc (n := n) (l := pl.take k) hdj hjl
      rw [← htk] at hsn
      have hcl := cntY_le hjl
      have htl : (pl.take k).length ≤ 12 := by rw [List.length_take]; omega
      have c0 := ownsRow_at hO j hjn
      obtain ⟨x1, hx1⟩ : ∃ x1, x1 = x.1 := ⟨_, rfl⟩
      obtain ⟨cv, hcv⟩ : ∃ cv, cv = (cntY n (pl.take k))[j] := ⟨_, rfl⟩
      have hcell : wr.cell? ⟨g, j, none⟩ = some (.int .i64 cv) := by
        obtain ⟨b, cc, he, hc⟩ := c0
        cases he
        rw [hc, intVs_get hjl, hcv]
      have hfz : wr.frozen? ⟨g, j, none⟩ = false := ownsRow_frozen hO
      rw [← hcv] at hsn hcl
      rw [← hx1] at e0 hdj hxb
      have hjn' : (j : Int) < (n : Int) := by omega
      have hwj : IntKind.i64.wrap (j : Int) = (j : Int) := IntWalk.i64_in _ (by omega)
      have hwc : IntKind.i64.wrap (cv + 1) = cv + 1 := IntWalk.i64_in _ (by omega)
      have HSN := Lib.hid hsn
      have hsb : sideB T.recs.length x1 = true := by unfold sideB; exact decide_eq_true (by omega)
      have HIS := Lib.hid (fun z : ExtW wr => ExtW.call (x := z) (by
        have := rIsSide02 T x1 tv z.w (HTV.out z.w (HEK.out.trans z.h)) (by have := HN.out; omega)
        rw [hsb, HV.out] at this
        exact this))
      have HCW := HCE.out wr hE
      have k0 := ExtW.cell HCW.1
      have k1 := ExtW.cell HCW.2.1
      have k2 := ExtW.cell HCW.2.2.1
      have k3 := ExtW.cell HCW.2.2.2.1
      have k4 := ExtW.cell HCW.2.2.2.2
      have ke := ExtW.cell e0
      have kc := ExtW.cell hcell
      clear hE hO hP c0 hcl hd hj hx htk hjl htl hsn hx1 hcv hsb HCW e0 hcell d0 d1 d2 d3 d4 hfz
      obtain ⟨y0, hy0⟩ := ExtW.of (Ext.refl wr)
      conv => arg 5; rw [hy0]
      clear hy0
      go_upto_region 8 with (fail)
      refine wp_region_extW (by kernel_rfl) (by kernel_rfl) ?_
      repeat (go_big_quiet_step ((go_at_call 17; exact HIS.out _)))
      refine wpQuiet_nil ?_
      rintro _ ⟨x2, rfl⟩
      have hO2 := ownsRow_ext HOK.out x2.h
      have HO2 := Lib.hid hO2
      have hfz : x2.w.frozen? ⟨g, j, none⟩ = false := ownsRow_frozen hO2
      have HP2 := Lib.hid (ownsRow_ext HPK.out x2.h)
      have HE2 := Lib.hid (HEK.out.trans x2.h)
      clear hO2
      go_wp2
      refine ⟨⟨k + 1, by omega, by simp, Ext.setCell HE2.out (p := ⟨g, j, none⟩) hgB _, ?_, ownsRow_off HP2.out hgB2⟩, by simp [intOf]; omega⟩
      rw [← HSN.out]
      exact ownsRow_set HO2.out
    · obtain rfl : k = pl.length := by omega
      have hge : ¬((pl.length : Int) < (pl.length : Int)) := by omega
      rw [List.take_length] at hO
      have HOL := Lib.hid hO
      clear hE hO hP
      go_wp2
      go_ret2
      rw [HPL.out] at HOL
      have hO := HOL.out
      rw [HN.out] at hO ⊢
      exact ⟨qs, g, HQ1.out, HQ2.out, rfl, HE0.out.trans HEK.out, ownsRow_base hO HE0.out.size⟩
end Go.Proofs.YtppncdbhebgcaaaDoor
