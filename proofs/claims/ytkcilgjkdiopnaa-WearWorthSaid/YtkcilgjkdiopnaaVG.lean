/- The walks of the small functions of shellacref01: Within, In, SameInts, Rising. The walk of Example of shellaclaw03. The chapter's example, reckoned out. The walk of works of shellaclaw03. The walk of the reference's Check. The walks of Far, farPlan, ready and the reference's IsPlan. -/
import Derived.Test.YtkcilgjkdiopnaaRows
import Derived.Test.YtkcilgjkdiopnaaVA
import Derived.Test.YtkcilgjkdiopnaaVF
import Derived.Test.YtkcilgjkdiopnaaVE
import Derived.Deep.RegionHeld3
namespace Go.Proofs.Ytkcilgjkdiopnaa
open Go.RowKit

set_option maxHeartbeats 400000 in
theorem Within01 (n lo hi : Int) (w : World) :
    Calls Try.prog 85 #[.int .i64 n, .int .i64 lo, .int .i64 hi] w (RetQ (.bool (bP (lo ≤ n ∧ n ≤ hi))) w) := by
  go_enter Try.func85, Try.ntmps85
  by_cases h1 : lo ≤ n
  · by_cases h2 : n ≤ hi
    · go_wp2
      go_ret
      exact RetQ.t0 ⟨h1, h2⟩
    · go_wp2
      go_ret
      exact RetQ.f0 (by omega)
  · go_wp2
    go_ret
    exact RetQ.f0 (by omega)

set_option maxHeartbeats 400000 in
theorem In01 (p : Option Addr) (l : List Int) (c : Nat) (n : Int) (w : World) (hl : l.length ≤ 100000) (h : IntsAt w p l) :
    Calls Try.prog 39 #[.slice p l.length c, .int .i64 n] w (RetQ (.bool (bP (n ∈ l))) w) := by
  go_enter Try.func39, Try.ntmps39
  go_wp2
  go_loop [5] (fun i => ∃ k : Nat, k ≤ l.length ∧ i = .int .i64 k ∧ n ∉ l.take k) (fun i => l.length - (intOf i).toNat)
  case atStart => exact ⟨0, Nat.zero_le _, rfl, by simp⟩
  case round =>
    obtain ⟨k, hk, rfl, hr⟩ := hrel
    have HR := Lib.hid hr
    clear hr
    by_cases hlt : k < l.length
    · obtain ⟨b, o, rfl, hc⟩ := h.at k hlt
      by_cases he : l[k] = n
      · have HE := Lib.hid he
        have he' : (l[k] == n) = true := by simpa using he
        clear he
        go_wp2
        go_ret
        exact RetQ.t0 (HE.out ▸ List.getElem_mem hlt)
      · have he' : (l[k] == n) = false := by simpa using he
        have HE := Lib.hid he
        clear he
        go_wp2
        go_round
        case rel => exact ⟨k + 1, by omega, by go_num, by rw [List.take_succ_eq_append_getElem hlt]; simp only [List.mem_append, List.mem_singleton, not_or]; exact ⟨HR.out, fun e => HE.out e.symm⟩⟩
        case measure => simp [intOf]; omega
    · go_wp2
      go_ret
      exact RetQ.f0 (by have := HR.out; rwa [List.take_of_length_le (by omega)] at this)

set_option maxHeartbeats 400000 in
theorem SameInts01 (p q : Option Addr) (a b : List Int) (c d : Nat) (w : World) (hl : a.length ≤ 100000) (hm : b.length ≤ 9223372036854775807) (ha : IntsAt w p a) (hb : IntsAt w q b) :
    Calls Try.prog 25 #[.slice p a.length c, .slice q b.length d] w (RetQ (.bool (bP (a = b))) w) := by
  by_cases hlen : a.length = b.length
  · have hlen' : ((a.length : Int) != (b.length : Int)) = false := by simp [hlen]
    have HL := Lib.hid hlen
    clear hlen
    go_enter Try.func25, Try.ntmps25
    go_wp2
    go_loopw [5] (fun i wr => ∃ k : Nat, k ≤ a.length ∧ i = .int .i64 k ∧ a.take k = b.take k ∧ Qt w wr) (fun i _ => a.length - (intOf i).toNat)
    case atStart => exact ⟨0, Nat.zero_le _, rfl, by simp, Qt.refl _⟩
    case round =>
      obtain ⟨k, hk, rfl, hr, hQ⟩ := hrel
      have HR := Lib.hid hr
      clear hr
      replace ha := ha.ext hQ.ext
      replace hb := hb.ext hQ.ext
      by_cases hlt : k < a.length
      · have hlt2 : k < b.length := by have := HL.out; omega
        obtain ⟨b1, o1, rfl, hc1⟩ := ha.at k hlt
        obtain ⟨b2, o2, rfl, hc2⟩ := hb.at k hlt2
        by_cases he : a[k] = b[k]
        · have he' : (a[k] != b[k]) = false := by simpa using he
          have HE := Lib.hid he
          clear he
          go_wp2
          go_quiet (fail)
          go_wp2
          go_roundw
          case rel => exact ⟨k + 1, by omega, by go_num, by rw [List.take_succ_eq_append_getElem hlt, List.take_succ_eq_append_getElem hlt2, HR.out, HE.out], (by repeat (first | exact Qt.refl _ | assumption | refine Qt.drewN ?_ _ | refine Qt.drew ?_))⟩
          case measure => simp [intOf]; omega
        · have he' : (a[k] != b[k]) = true := by simpa using he
          have HE := Lib.hid he
          clear he
          go_wp2
          go_quiet (fail)
          go_wp2
          go_ret
          refine RetQ.ff (by repeat (first | exact Qt.refl _ | assumption | refine Qt.drewN ?_ _ | refine Qt.drew ?_)) ?_
          intro e
          subst e
          exact HE.out rfl
      · go_wp2
        go_ret
        exact RetQ.tt (by repeat (first | exact Qt.refl _ | assumption | refine Qt.drewN ?_ _ | refine Qt.drew ?_)) (by have h1 := HR.out; have h2 := HL.out; rwa [List.take_of_length_le (by omega), List.take_of_length_le (by omega)] at h1)
  · have hlen' : ((a.length : Int) != (b.length : Int)) = true := by simp; omega
    have HL := Lib.hid hlen
    clear hlen
    go_enter Try.func25, Try.ntmps25
    go_wp2
    go_ret
    exact RetQ.f0 (fun e => HL.out (by rw [e]))

theorem Rises.take_succ {l : List Int} {lo hi : Int} {k : Nat} (hk : k < l.length) (h : Rises (l.take k) lo hi) (h1 : lo ≤ l[k]) (h2 : l[k] ≤ hi) (h3 : ∀ j (h : j + 1 = k), l[j]'(by omega) < l[k]) : Rises (l.take (k + 1)) lo hi := by
  obtain ⟨ha, hb⟩ := h
  refine ⟨fun i hi' => ?_, fun i hi' => ?_⟩
  · simp only [List.length_take] at hi'
    rw [List.getElem_take]
    by_cases e : i = k
    · subst e; exact ⟨h1, h2⟩
    · have := ha i (by simp only [List.length_take]; omega)
      rwa [List.getElem_take] at this
  · simp only [List.length_take] at hi'
    rw [List.getElem_take, List.getElem_take]
    by_cases e : i + 1 = k
    · subst e; exact h3 i rfl
    · have := hb i (by simp only [List.length_take]; omega)
      rwa [List.getElem_take, List.getElem_take] at this

set_option maxHeartbeats 800000 in
theorem Rising01 (p : Option Addr) (l : List Int) (c : Nat) (lo hi : Int) (w : World) (hl : l.length ≤ 100000) (h : IntsAt w p l) :
    Calls Try.prog 72 #[.slice p l.length c, .int .i64 lo, .int .i64 hi] w (RetQ (.bool (bP (Rises l lo hi))) w) := by
  go_enter Try.func72, Try.ntmps72
  go_wp2
  go_loopw [7] (fun i wr => ∃ k : Nat, k ≤ l.length ∧ i = .int .i64 k ∧ Rises (l.take k) lo hi ∧ Qt w wr) (fun i _ => l.length - (intOf i).toNat)
  case atStart => exact ⟨0, Nat.zero_le _, rfl, ⟨fun i h => absurd h (by simp), fun i h => absurd h (by simp)⟩, Qt.refl _⟩
  case round =>
    obtain ⟨k, hk, rfl, hr, hQ⟩ := hrel
    have HR := Lib.hid hr
    clear hr
    replace h := h.ext hQ.ext
    by_cases hlt : k < l.length
    · obtain ⟨b, o, rfl, hc⟩ := h.at k hlt
      by_cases hw : lo ≤ l[k] ∧ l[k] ≤ hi
      · have HW := Lib.hid hw
        clear hw
        by_cases hk0 : 0 < k
        · obtain ⟨b', o', he, hc'⟩ := h.at (k - 1) (by omega)
          obtain ⟨rfl, rfl⟩ : b = b' ∧ o = o' := by simpa using he
          clear he
          have hk0' : decide ((0 : Int) < k) = true := by simp; omega
          have hx : IntKind.i64.wrap ((k : Int) - 1) = (k : Int) - 1 := by rw [IntKind.wrap_i64]; omega
          have hx2 : ((k : Int) - 1).toNat = k - 1 := by omega
          have hx3 : 0 ≤ (k : Int) - 1 := by omega
          by_cases hle : l[k] ≤ l[k-1]
          · have hle' : decide (l[k] ≤ l[k-1]) = true := by simpa using hle
            go_wp2
            go_quiet ((go_at_call 85; exact RetQ.quiet (RetQ.bt HW.out (Within01 _ _ _ _))))
            go_wp2
            go_ret
            refine RetQ.ff (by repeat (first | exact Qt.refl _ | assumption | refine Qt.drewN ?_ _ | refine Qt.drew ?_)) ?_
            intro hR
            have := hR.2 (k-1) (by omega)
            simp only [show k - 1 + 1 = k from by omega] at this
            omega
          · have hle' : decide (l[k] ≤ l[k-1]) = false := by simpa using hle
            go_wp2
            go_quiet ((go_at_call 85; exact RetQ.quiet (RetQ.bt HW.out (Within01 _ _ _ _))))
            go_wp2
            go_roundw
            case rel => exact ⟨k + 1, by omega, by go_num, Rises.take_succ hlt HR.out HW.out.1 HW.out.2 (by intro j hj; obtain rfl : j = k - 1 := (by omega); exact hle), (by repeat (first | exact Qt.refl _ | assumption | refine Qt.drewN ?_ _ | refine Qt.drew ?_))⟩
            case measure => simp [intOf]; omega
        · obtain rfl : k = 0 := by omega
          simp only [Nat.add_zero] at hc
          clear hk0
          go_wp2
          go_quiet ((go_at_call 85; exact RetQ.quiet (RetQ.bt HW.out (Within01 _ _ _ _))))
          go_wp2
          go_roundw
          case rel => exact ⟨0 + 1, by omega, by go_num, Rises.take_succ hlt HR.out HW.out.1 HW.out.2 (by intro j hj; omega), (by repeat (first | exact Qt.refl _ | assumption | refine Qt.drewN ?_ _ | refine Qt.drew ?_))⟩
          case measure => simp [intOf]; omega
      · have HW := Lib.hid hw
        clear hw
        go_wp2
        go_quiet ((go_at_call 85; exact RetQ.quiet (RetQ.bf HW.out (Within01 _ _ _ _))))
        go_wp2
        go_ret
        exact RetQ.ff (by repeat (first | exact Qt.refl _ | assumption | refine Qt.drewN ?_ _ | refine Qt.drew ?_)) (fun hR => HW.out (hR.1 k hlt))
    · go_wp2
      go_ret
      exact RetQ.tt (by repeat (first | exact Qt.refl _ | assumption | refine Qt.drewN ?_ _ | refine Qt.drew ?_)) (by have := HR.out; rwa [List.take_of_length_le (by omega)] at this)
end Go.Proofs.Ytkcilgjkdiopnaa
namespace Go.Proofs.Ytkcilgjkdiopnaa
open Go.RowKit

theorem heap_newN {w : World} {b : Nat} (o : Obj) (h : b = w.heap.size) : (w.alloc o).heap[b]? = some o := by rw [h]; exact heap_new w o
theorem chain6 {Q : World → Prop} (w : World) (o0 o1 o2 o3 o4 o5 : Obj) (h : ∀ W, Ext w W → W.heap[w.heap.size]? = some o0 → W.heap[w.heap.size + 1]? = some o1 → W.heap[w.heap.size + 1 + 1]? = some o2 → W.heap[w.heap.size + 1 + 1 + 1]? = some o3 → W.heap[w.heap.size + 1 + 1 + 1 + 1]? = some o4 → W.heap[w.heap.size + 1 + 1 + 1 + 1 + 1]? = some o5 → Q W) : Q ((((((w.alloc o0).alloc o1).alloc o2).alloc o3).alloc o4).alloc o5) := by
  refine h _ ?_ ?_ ?_ ?_ ?_ ?_ ?_
  · repeat (first | exact Ext.refl _ | refine Ext.alloc ?_ _)
  · refine heap_old _ ?_; refine heap_old _ ?_; refine heap_old _ ?_; refine heap_old _ ?_; refine heap_old _ ?_; exact heap_newN _ rfl
  · refine heap_old _ ?_; refine heap_old _ ?_; refine heap_old _ ?_; refine heap_old _ ?_; exact heap_newN _ (by simp only [size_alloc])
  · refine heap_old _ ?_; refine heap_old _ ?_; refine heap_old _ ?_; exact heap_newN _ (by simp only [size_alloc])
  · refine heap_old _ ?_; refine heap_old _ ?_; exact heap_newN _ (by simp only [size_alloc])
  · refine heap_old _ ?_; exact heap_newN _ (by simp only [size_alloc])
  · exact heap_newN _ (by simp only [size_alloc])

/-- the box and the plan of the chapter's examples -/
def exX : Wr := ⟨3, 50, 0, 10, [1, 2, 4], [⟨0, 40, 30, [10, 10, 10]⟩, ⟨5, 60, 20, [5, 5, 5]⟩]⟩
def exP : List Wk := [⟨0, []⟩, ⟨1, []⟩, ⟨1, []⟩]
def exZ : List Wk := [⟨0, []⟩, ⟨0, []⟩, ⟨0, []⟩]

theorem Example03 (w : World) : Calls Try.prog 53 #[] w (fun e w' => ∃ v q, e = .returned (.tuple #[v, .slice q 3 3]) ∧ Ext w w' ∧ WrV w' v exX ∧ WksAt w' q exP) := by
  go_enter Try.func53, Try.ntmps53
  go_wp2
  refine chain6 (Q := bodyPost Try.prog _ _ _ _) w _ _ _ _ _ _ ?_
  intro W hE h0 h1 h2 h3 h4 h5
  refine bodyPost_ret (v := .tuple #[.agg #[.int .i64 3, .int .i64 50, .int .i64 0, .int .i64 10, .slice (some ⟨w.heap.size + 1, 0, none⟩) 3 3, .slice (some ⟨w.heap.size + 1 + 1 + 1 + 1, 0, none⟩) 2 2], .slice (some ⟨w.heap.size + 1 + 1 + 1 + 1 + 1, 0, none⟩) 3 3]) ?_ rfl ⟨_, _, rfl, hE, ?_, ?_⟩
  · have c0 := cell_of_heap h0 0
    have c1 := cell_of_heap h0 1
    have c2 := cell_of_heap h0 2
    have c3 := cell_of_heap h0 3
    have c4 := cell_of_heap h0 4
    have c5 := cell_of_heap h0 5
    simp at c0 c1 c2 c3 c4 c5
    simp [results, Try.results53, go_sem, c0, c1, c2, c3, c4, c5]
  · refine ⟨_, _, _, _, rfl, IntsAt.cells exX.rough h1, ?_⟩
    rintro (_ | _ | i) hi
    · exact ⟨_, 0, _, 3, rfl, cell_of_heap h4 0, cell_of_heap h4 1, cell_of_heap h4 2, cell_of_heap h4 3, IntsAt.cells [10, 10, 10] h2⟩
    · exact ⟨_, 0, _, 3, rfl, cell_of_heap h4 4, cell_of_heap h4 5, cell_of_heap h4 6, cell_of_heap h4 7, IntsAt.cells [5, 5, 5] h3⟩
    · exact absurd hi (by simp [exX])
  · rintro (_ | _ | _ | i) hi
    · exact ⟨_, 0, none, 0, rfl, cell_of_heap h5 0, cell_of_heap h5 1, IntsAt.nil _ _⟩
    · exact ⟨_, 0, none, 0, rfl, cell_of_heap h5 2, cell_of_heap h5 3, IntsAt.nil _ _⟩
    · exact ⟨_, 0, none, 0, rfl, cell_of_heap h5 4, cell_of_heap h5 5, IntsAt.nil _ _⟩
    · exact absurd hi (by simp [exP])
end Go.Proofs.Ytkcilgjkdiopnaa
namespace Go.Proofs.Ytkcilgjkdiopnaa
open Go.RowKit

theorem ex_validW : ValidW exX where
  weeks := by decide
  age := by decide
  step := by decide
  price := by decide
  rough := by decide
  recs := by decide
  rg := by decide
  up := by
    rintro (_ | _ | i) h
    · simp [exX]
    · simp [exX]
    · exact absurd h (by simp [exX])
  rc := by
    rintro (_ | _ | i) h
    · exact ⟨by simp [exX], by simp [exX], by simp [exX], by simp [exX], by show ∀ k (h : k < ([10, 10, 10] : List Int).length), 0 ≤ ([10, 10, 10] : List Int)[k] ∧ ([10, 10, 10] : List Int)[k] ≤ 99; decide⟩
    · exact ⟨by simp [exX], by simp [exX], by simp [exX], by simp [exX], by show ∀ k (h : k < ([5, 5, 5] : List Int).length), 0 ≤ ([5, 5, 5] : List Int)[k] ∧ ([5, 5, 5] : List Int)[k] ≤ 99; decide⟩
    · exact absurd h (by simp [exX])
theorem ex_plan (l : List Wk) (h0 : l.length = 3) (h : ∀ x ∈ l, x.recs = [] ∧ 0 ≤ x.needle ∧ x.needle ≤ 1) : PlanOK exX l := by
  refine ⟨by rw [h0]; rfl, fun x hx => ⟨?_, (h x hx).2⟩⟩
  rw [(h x hx).1]
  exact ⟨fun i hi => absurd hi (by simp), fun i hi => absurd hi (by simp)⟩
theorem ex_planP : PlanOK exX exP := ex_plan exP rfl (by decide)
theorem ex_planZ : PlanOK exX exZ := ex_plan exZ rfl (by decide)
theorem ex_run : wornL 2 (runTo exX exP 3).worn = [30, 35] ∧ (runTo exX exP 3).age = 15 ∧ (runTo exX exP 3).cost = 100 := by decide +kernel
theorem ex_firstBad : firstBad exX exZ = 2 := by decide +kernel
theorem ex_goodV : goodV exX exZ = .tuple #[.bool false, .int .i64 2, .int .i64 0] := by
  rw [goodV_ok ex_validW ex_planZ, ex_firstBad]
  rfl
theorem ex_best : (bestW exX).map (fun c => allW exX c exX.price) = some 30 := by decide +kernel
theorem ex_cheapV : cheapV exX = .tuple #[.int .i64 30, .int .i64 0] := by
  have h := ex_best
  unfold cheapV
  cases hb : bestW exX with
  | none => rw [hb] at h; cases h
  | some c => rw [hb] at h; simp at h; simp [h]
instance chEq : DecidableEq Ch := fun a b => decidable_of_iff (a.needles = b.needles ∧ a.records = b.records) (by cases a; cases b; simp)
theorem ex_choices : choicesW exX 3 = [⟨0, [4, 0]⟩, ⟨1, [4, 0]⟩, ⟨2, [4, 0]⟩, ⟨3, [4, 0]⟩, ⟨4, [4, 0]⟩, ⟨5, [4, 0]⟩, ⟨6, [0, 0]⟩, ⟨7, [0, 0]⟩] := by decide +kernel
theorem ex_worthTo : worthTo exX [⟨0, [4, 0]⟩, ⟨1, [4, 0]⟩, ⟨2, [4, 0]⟩, ⟨3, [4, 0]⟩, ⟨4, [4, 0]⟩, ⟨5, [4, 0]⟩, ⟨6, [0, 0]⟩, ⟨7, [0, 0]⟩] 1000 = some 15 := by decide +kernel
theorem worthV_some {X : Wr} {L : List Ch} {c : Ch} {n : Nat} (h : bestW X = some c) (hL : choicesW X X.weeks.toNat = L) (h2 : worthTo X L 1000 = some n) : worthV X = .tuple #[.int .i64 n, .int .i64 0] := by
  unfold worthV
  rw [h, hL]
  simp only
  rw [h2]
theorem ex_worthV : worthV exX = .tuple #[.int .i64 15, .int .i64 0] := by
  cases hb : bestW exX with
  | none => have h := ex_best; rw [hb] at h; cases h
  | some c => exact worthV_some hb ex_choices ex_worthTo
theorem ex_last : lastTo exX 29 3 = 2 := by decide +kernel
theorem ex_lastV : lastV exX 29 = .tuple #[.int .i64 2, .int .i64 0] := by
  unfold lastV
  rw [if_pos (by decide), show exX.weeks.toNat = 3 from rfl, ex_last]
  rfl
theorem ex_modest : ModestW exX := ⟨by decide, by decide, by decide⟩
end Go.Proofs.Ytkcilgjkdiopnaa
namespace Go.Proofs.Ytkcilgjkdiopnaa
open Go.RowKit

set_option maxRecDepth 20000 in
theorem make3 (w : World) : (Instr.makeSlice 26 (.int .i64 3) (.int .i64 3)).run Try.prog w = .ok (.slice (some ⟨w.heap.size, 0, none⟩) 3 3) (w.alloc (.cells #[.int .i64 0, .slice none 0 0, .int .i64 0, .slice none 0 0, .int .i64 0, .slice none 0 0] 61)) := by
  have hi : (Try.prog.info? 61).map (fun i => (i.zero, i.size, i.bytes)) = some (some (.agg #[.int .i64 0, .slice none 0 0]), 2, 32) := by kernel_rfl
  obtain ⟨i, hi, hzz⟩ := Option.map_eq_some_iff.1 hi
  simp only [Prod.mk.injEq] at hzz
  obtain ⟨hz, hs, hb⟩ := hzz
  have hr := run_make (P := Try.prog) w 26 61 i _ Try.underlying26 hi hz .i64 .i64 3 3 (by omega) (Int.le_refl _) (by rw [hb]; decide) (by omega)
  rw [hr]
  simp [hs, madeCells, Value.cells, show Array.range 6 = #[0, 1, 2, 3, 4, 5] from by decide]
set_option maxRecDepth 20000 in
set_option maxHeartbeats 1600000 in
theorem works03 (w : World) : Calls Try.prog 16 #[] w (RetE (.bool true) w) := by
  go_enter Try.func16, Try.ntmps16
  go_wp2_with fail
  refine (Example03 _).mono ?_
  rintro e W1 ⟨v, pq, rfl, hE1, hv, hP⟩
  have HV := Lib.hid hv
  have HP := Lib.hid hP
  obtain ⟨p, cp, q, d, rfl, hG, hR⟩ := hv
  clear hP hG hR
  go_upto_region 2 with (fail)
  have hn := heap_new W1 (.cells #[.int .i64 exX.weeks, .int .i64 exX.price, .int .i64 exX.age, .int .i64 exX.step, .slice p exX.rough.length cp, .slice q exX.recs.length d] 25)
  obtain ⟨W, hW⟩ : ∃ W, W = W1.alloc (.cells #[.int .i64 exX.weeks, .int .i64 exX.price, .int .i64 exX.age, .int .i64 exX.step, .slice p exX.rough.length cp, .slice q exX.recs.length d] 25) := ⟨_, rfl⟩
  have hE : Ext W1 W := by rw [hW]; exact Ext.alloc (Ext.refl W1) _
  rw [← hW] at hn ⊢
  have hB : ∀ z, Ext W z → z.cell? ⟨W1.heap.size, 0, none⟩ = some (.int .i64 exX.weeks) ∧ z.cell? ⟨W1.heap.size, 1, none⟩ = some (.int .i64 exX.price) ∧ z.cell? ⟨W1.heap.size, 2, none⟩ = some (.int .i64 exX.age) ∧ z.cell? ⟨W1.heap.size, 3, none⟩ = some (.int .i64 exX.step) ∧ z.cell? ⟨W1.heap.size, 4, none⟩ = some (.slice p exX.rough.length cp) ∧ z.cell? ⟨W1.heap.size, 5, none⟩ = some (.slice q exX.recs.length d) := fun z hz =>
    ⟨hz.cell ((cell_of_heap hn 0).trans rfl), hz.cell ((cell_of_heap hn 1).trans rfl), hz.cell ((cell_of_heap hn 2).trans rfl), hz.cell ((cell_of_heap hn 3).trans rfl), hz.cell ((cell_of_heap hn 4).trans rfl), hz.cell ((cell_of_heap hn 5).trans rfl)⟩
  have HB := Lib.hid hB
  have HE := Lib.hid hE
  have q0 : W.cell? ⟨W1.heap.size, 0, none⟩ = some (.int .i64 exX.weeks) := (cell_of_heap hn 0).trans rfl
  have q1 : W.cell? ⟨W1.heap.size, 1, none⟩ = some (.int .i64 exX.price) := (cell_of_heap hn 1).trans rfl
  have q2 : W.cell? ⟨W1.heap.size, 2, none⟩ = some (.int .i64 exX.age) := (cell_of_heap hn 2).trans rfl
  have q3 : W.cell? ⟨W1.heap.size, 3, none⟩ = some (.int .i64 exX.step) := (cell_of_heap hn 3).trans rfl
  have q4 : W.cell? ⟨W1.heap.size, 4, none⟩ = some (.slice p exX.rough.length cp) := (cell_of_heap hn 4).trans rfl
  have q5 : W.cell? ⟨W1.heap.size, 5, none⟩ = some (.slice q exX.recs.length d) := (cell_of_heap hn 5).trans rfl
  clear hW hn hE hB
  obtain ⟨B, hBB⟩ : ∃ B, B = W1.heap.size := ⟨_, rfl⟩
  rw [← hBB] at HB q0 q1 q2 q3 q4 q5 ⊢
  clear hBB
  have HRun : Hid (Calls Try.prog 21 #[.agg #[.int .i64 exX.weeks, .int .i64 exX.price, .int .i64 exX.age, .int .i64 exX.step, .slice p exX.rough.length cp, .slice q exX.recs.length d], .slice pq 3 3] W (fun e w' => Ext W w' ∧ ∃ u c, e = .returned (.tuple #[.slice u 2 c, .int .i64 15, .int .i64 100, .int .i64 0]) ∧ IntsAt w' u [30, 35])) := Lib.hid (by
    refine (Run03 _ exX pq exP 3 W (WrV.mono _ _ _ _ HE.out HV.out) ex_modest (by decide) (by decide) (HP.out.ext HE.out)).mono ?_
    rintro e w' ⟨hE2, (⟨hx1, hx2, ⟨u, rfl, hu⟩⟩ | ⟨hx1, hx2, rfl⟩ | ⟨hx1, rfl⟩)⟩
    · obtain ⟨h1, h2, h3⟩ := ex_run
      rw [show exP.length = 3 from rfl, show exX.recs.length = 2 from rfl, h1] at hu
      obtain ⟨u', c', rfl, hu⟩ := hu
      refine ⟨hE2, u', c', ?_, hu⟩
      rw [show exP.length = 3 from rfl, h2, h3]
      rfl
    · exact absurd ex_planP hx2
    · exact absurd ex_validW hx1)
  have HC : Hid (∀ z, Ext W z → _) := Lib.hid (fun z hz => ex_cheapV ▸ Cheapest03 _ exX z (WrV.mono _ _ _ _ (HE.out.trans hz) HV.out) ex_validW ex_modest)
  have HWo : Hid (∀ z, Ext W z → _) := Lib.hid (fun z hz => ex_worthV ▸ Worth03 _ exX z (WrV.mono _ _ _ _ (HE.out.trans hz) HV.out) ex_validW ex_modest)
  have HL : Hid (∀ z, Ext W z → _) := Lib.hid (fun z hz => ex_lastV ▸ Last03 _ exX 29 z (WrV.mono _ _ _ _ (HE.out.trans hz) HV.out) ex_validW ex_modest)
  have HGo : Hid (∀ z (b : Nat), Ext W z → WksAt z (some ⟨b, 0, none⟩) exZ → _) := Lib.hid (fun z b hz h => ex_goodV ▸ Good03 _ exX (some ⟨b, 0, none⟩) exZ 3 z (WrV.mono _ _ _ _ (HE.out.trans hz) HV.out) ex_modest (by decide) (by decide) h)
  have HS : Hid (∀ z (u : Option Addr) (c : Nat), IntsAt z u [30, 35] → ∀ b, IntsAt z (some ⟨b, 0, none⟩) [30, 35] → _) := Lib.hid (fun z u c hu b hb => bP_t (rfl : ([30, 35] : List Int) = [30, 35]) ▸ SameInts01 u (some ⟨b, 0, none⟩) [30, 35] [30, 35] c 2 z (by decide) (by decide) hu hb)
  have HE1 := Lib.hid hE1
  clear hE1
  go_upto_region 3 with (go_at_call 21; refine HRun.out.mono ?_; rintro e W2 ⟨hE2, u, uc, rfl, hu⟩)
  have HU := Lib.hid hu
  have HE2 := Lib.hid hE2
  clear q0 q1 q2 q3 q4 q5 hu hE2
  obtain ⟨q0, q1, q2, q3, q4, q5⟩ := HB.out W2 HE2.out
  go_upto_region 4 with (go_at_call 36; refine (HC.out _ HE2.out).mono ?_; rintro e W3 ⟨rfl, hE3⟩)
  have HE3 := Lib.hid (HE2.out.trans hE3)
  have HU3 := Lib.hid (HU.out.ext hE3)
  clear q0 q1 q2 q3 q4 q5 hE3
  obtain ⟨q0, q1, q2, q3, q4, q5⟩ := HB.out W3 HE3.out
  go_upto_region 5 with (go_at_call 28; refine (HWo.out _ HE3.out).mono ?_; rintro e W4 ⟨rfl, hE4⟩)
  have HE4 := Lib.hid (HE3.out.trans hE4)
  have HU4 := Lib.hid (HU3.out.ext hE4)
  clear q0 q1 q2 q3 q4 q5 hE4
  refine wp_region_heldT (fun z => (z.cell? ⟨B, 0, none⟩ = some (.int .i64 exX.weeks) ∧ z.cell? ⟨B, 1, none⟩ = some (.int .i64 exX.price) ∧ z.cell? ⟨B, 2, none⟩ = some (.int .i64 exX.age) ∧ z.cell? ⟨B, 3, none⟩ = some (.int .i64 exX.step) ∧ z.cell? ⟨B, 4, none⟩ = some (.slice p exX.rough.length cp) ∧ z.cell? ⟨B, 5, none⟩ = some (.slice q exX.recs.length d))) 9 [(true, 0), (false, 1), (false, 2), (true, 3), (true, 4), (true, 5), (true, 6), (true, 7), (true, 8)] (by kernel_rfl) (by kernel_rfl) (HB.out _ HE4.out.drew) ?_
  simp only [List.map_cons, List.map_nil, List.getElem?_cons_zero, List.getElem?_cons_succ]
  repeat (refine wpHL_take (v := ?_) (by rfl) ?_ (fun _ _ _ h => h) ?_; rotate_left 1; (intro z hz; (try dsimp only at hz); go_simp; (try with_reducible rfl)); simp only [Act.put, List.setIfInBounds_toArray, List.set_cons_zero, List.set_cons_succ])
  refine wpHL_step (fun K hK => ?_)
  have hmk := make3
  go_simp
  have hn5 := heap_new W4.drew (.cells #[.int .i64 0, .slice none 0 0, .int .i64 0, .slice none 0 0, .int .i64 0, .slice none 0 0] 61)
  have hE5 : Ext W (W4.drew.alloc (.cells #[.int .i64 0, .slice none 0 0, .int .i64 0, .slice none 0 0, .int .i64 0, .slice none 0 0] 61)) := Ext.alloc HE4.out.drew _
  have hz5 : WksAt (W4.drew.alloc (.cells #[.int .i64 0, .slice none 0 0, .int .i64 0, .slice none 0 0, .int .i64 0, .slice none 0 0] 61)) (some ⟨W4.drew.heap.size, 0, none⟩) exZ := by
    rintro (_ | _ | _ | i) hi
    · exact ⟨_, 0, none, 0, rfl, cell_of_heap hn5 0, cell_of_heap hn5 1, IntsAt.nil _ _⟩
    · exact ⟨_, 0, none, 0, rfl, cell_of_heap hn5 2, cell_of_heap hn5 3, IntsAt.nil _ _⟩
    · exact ⟨_, 0, none, 0, rfl, cell_of_heap hn5 4, cell_of_heap hn5 5, IntsAt.nil _ _⟩
    · exact absurd hi (by simp [exZ])
  refine hK.out _ _ (HB.out _ hE5) ?_
  clear hK K
  try simp only [Act.put, List.setIfInBounds_toArray, List.set_cons_zero, List.set_cons_succ]
  refine wpHL_step (fun K hK => ?_)
  go_simp
  refine (HGo.out _ _ hE5 hz5).mono ?_
  rintro e W5 ⟨rfl, hE6⟩
  refine hK.out _ _ (HB.out _ (hE5.trans hE6)) ?_
  clear hK K hn5 hz5
  have HE5 := Lib.hid (hE5.trans hE6)
  have HU5 := Lib.hid (HU4.out.ext ((Ext.alloc (Ext.refl _).drew _).trans hE6))
  clear hE5 hE6
  try simp only [Act.put, List.setIfInBounds_toArray, List.set_cons_zero, List.set_cons_succ]
  repeat (refine wpHL_take (v := ?_) (by rfl) ?_ (fun _ _ _ h => h) ?_; rotate_left 1; (intro z hz; (try dsimp only at hz); go_simp; (try with_reducible rfl)); simp only [Act.put, List.setIfInBounds_toArray, List.set_cons_zero, List.set_cons_succ])
  refine wpHL_nil ?_
  simp only [List.drop_succ_cons, List.drop_zero]
  obtain ⟨q0, q1, q2, q3, q4, q5⟩ := HB.out W5 HE5.out
  go_upto_region 7 with (go_at_call 30; refine (HL.out _ HE5.out).mono ?_; rintro e W6 ⟨rfl, hE6⟩)
  have HE6 := Lib.hid ((HE1.out.trans HE.out).trans (HE5.out.trans hE6))
  have HU6 := Lib.hid (HU5.out.ext hE6)
  clear q0 q1 q2 q3 q4 q5 hE6
  have hn7 := heap_new W6 (.cells #[.int .i64 30, .int .i64 35] 3)
  have HS7 := Lib.hid (HS.out (W6.alloc (.cells #[.int .i64 30, .int .i64 35] 3)) u uc (HU6.out.ext (Ext.alloc (Ext.refl _) _)) _ (IntsAt.cells [30, 35] hn7))
  clear hn7
  go_wp2_with (go_at_call 25; refine HS7.out.mono ?_; rintro e W7 ⟨rfl, hQ7⟩)
  go_ret
  obtain ⟨m, rfl⟩ := hQ7
  exact RetE.fin (Ext.trans (Ext.alloc HE6.out _) (Qt.ext ⟨m, rfl⟩)) rfl
end Go.Proofs.Ytkcilgjkdiopnaa
namespace Go.Proofs.Ytkcilgjkdiopnaa
open Go.RowKit

theorem rwithin03 (n lo hi : Int) (w : World) : Calls Try.prog 57 #[.int .i64 n, .int .i64 lo, .int .i64 hi] w (RetQ (.bool (bP (lo ≤ n ∧ n ≤ hi))) w) := by
  have H := Lib.hid (Within01 n lo hi w)
  go_enter Try.func57, Try.ntmps57
  go_wp2_with fail
  refine H.out.mono ?_
  rintro e _ ⟨rfl, m, rfl⟩
  go_wp2
  go_ret
  exact RetQ.mk m
theorem rIn {W : World} {n lo hi : Int} (h : lo ≤ n ∧ n ≤ hi) (y : ExtW W) : Calls Try.prog 57 #[.int .i64 n, .int .i64 lo, .int .i64 hi] y.w fun e w'' => e = .returned (.bool true) ∧ ∃ z : ExtW W, w'' = z.w :=
  ExtW.call (RetQ.e (RetQ.bt h (rwithin03 n lo hi y.w)))
theorem rOut {W : World} {n lo hi : Int} (h : ¬(lo ≤ n ∧ n ≤ hi)) (y : ExtW W) : Calls Try.prog 57 #[.int .i64 n, .int .i64 lo, .int .i64 hi] y.w fun e w'' => e = .returned (.bool false) ∧ ∃ z : ExtW W, w'' = z.w :=
  ExtW.call (RetQ.e (RetQ.bf h (rwithin03 n lo hi y.w)))

set_option maxHeartbeats 1600000 in
theorem rCheck03 (v : Value) (X : Wr) (w : World) (hv : WrV w v X) (hM : ModestW X) : Calls Try.prog 20 #[v] w (RetE (.int .i64 (chkW X)) w) := by
  obtain ⟨p, c, q, d, rfl, h1, h2⟩ := hv
  have m1 := hM.rough
  have m2 := hM.recs
  go_enter Try.func20, Try.ntmps20
  go_upto_region 1 with (fail)
  have hn := heap_new w (.cells (wrCells X p c q d) 25)
  unfold wrCells at hn
  obtain ⟨W, hW⟩ : ∃ W, W = w.alloc (.cells #[.int .i64 X.weeks, .int .i64 X.price, .int .i64 X.age, .int .i64 X.step, .slice p X.rough.length c, .slice q X.recs.length d] 25) := ⟨_, rfl⟩
  have hE : Ext w W := by rw [hW]; exact Ext.alloc (Ext.refl w) _
  rw [← hW] at hn ⊢
  have q0 := ExtW.cell (v := .int .i64 X.weeks) (cell_of_heap hn 0)
  have q1 := ExtW.cell (v := .int .i64 X.price) (cell_of_heap hn 1)
  have q2 := ExtW.cell (v := .int .i64 X.age) (cell_of_heap hn 2)
  have q3 := ExtW.cell (v := .int .i64 X.step) (cell_of_heap hn 3)
  have q4 := ExtW.cell (v := .slice p X.rough.length c) (cell_of_heap hn 4)
  have q5 := ExtW.cell (v := .slice q X.recs.length d) (cell_of_heap hn 5)
  obtain ⟨x0, hx0⟩ := ExtW.of (Ext.refl W)
  have k1 := h1.ext hE
  have k2 := h2.ext hE
  clear hW hn h1 h2
  conv => arg 5; rw [hx0]
  clear hx0
  by_cases hA : 0 ≤ X.weeks ∧ X.weeks ≤ 6
  case neg =>
    have HA := Lib.hid hA
    have HCA := Lib.hid (rOut (W := W) hA)
    clear hA
    go_wp2_with (go_at_call 57; (with_reducible first | refine (HCA.out _).mono ?_); rintro e w' ⟨rfl, x2, rfl⟩)
    go_ret
    exact RetE.fin (hE.trans x2.h) (chkW_30 (fun h => HA.out h.weeks) rfl)
  have HA := Lib.hid hA
  have HCA := Lib.hid (rIn (W := W) hA)
  clear hA
  by_cases hD : 0 ≤ X.price ∧ X.price ≤ 999
  case neg =>
    have HD := Lib.hid hD
    have HCD := Lib.hid (rOut (W := W) hD)
    clear hD
    go_wp2_with (go_at_call 57; (with_reducible first | refine (HCA.out _).mono ?_ | refine (HCD.out _).mono ?_); rintro e w' ⟨rfl, x2, rfl⟩)
    go_ret
    exact RetE.fin (hE.trans x2.h) (chkW_30 (fun h => HD.out h.price) rfl)
  have HD := Lib.hid hD
  have HCD := Lib.hid (rIn (W := W) hD)
  clear hD
  by_cases hB : 0 ≤ X.age ∧ X.age ≤ 9999
  case neg =>
    have HB := Lib.hid hB
    have HCB := Lib.hid (rOut (W := W) hB)
    clear hB
    go_wp2_with (go_at_call 57; (with_reducible first | refine (HCA.out _).mono ?_ | refine (HCD.out _).mono ?_ | refine (HCB.out _).mono ?_); rintro e w' ⟨rfl, x2, rfl⟩)
    go_ret
    exact RetE.fin (hE.trans x2.h) (chkW_30 (fun h => HB.out h.age) rfl)
  have HB := Lib.hid hB
  have HCB := Lib.hid (rIn (W := W) hB)
  clear hB
  by_cases hC : 1 ≤ X.step ∧ X.step ≤ 999
  case neg =>
    have HC := Lib.hid hC
    have HCC := Lib.hid (rOut (W := W) hC)
    clear hC
    go_wp2_with (go_at_call 57; (with_reducible first | refine (HCA.out _).mono ?_ | refine (HCD.out _).mono ?_ | refine (HCB.out _).mono ?_ | refine (HCC.out _).mono ?_); rintro e w' ⟨rfl, x2, rfl⟩)
    go_ret
    exact RetE.fin (hE.trans x2.h) (chkW_30 (fun h => HC.out h.step) rfl)
  have HC := Lib.hid hC
  have HCC := Lib.hid (rIn (W := W) hC)
  clear hC
  by_cases hF : 1 ≤ (X.rough.length : Int) ∧ (X.rough.length : Int) ≤ 8
  case neg =>
    have HF := Lib.hid hF
    have HCF := Lib.hid (rOut (W := W) hF)
    clear hF
    go_wp2_with (go_at_call 57; (with_reducible first | refine (HCA.out _).mono ?_ | refine (HCD.out _).mono ?_ | refine (HCB.out _).mono ?_ | refine (HCC.out _).mono ?_ | refine (HCF.out _).mono ?_); rintro e w' ⟨rfl, x2, rfl⟩)
    go_ret
    exact RetE.fin (hE.trans x2.h) (chkW_30 (fun h => HF.out h.rough) rfl)
  have HF := Lib.hid hF
  have HCF := Lib.hid (rIn (W := W) hF)
  clear hF
  by_cases hG : X.recs.length ≤ 4
  case neg =>
    have HG := Lib.hid hG
    have hG' : 4 < (X.recs.length : Int) := by omega
    clear hG
    go_wp2_with (go_at_call 57; (with_reducible first | refine (HCA.out _).mono ?_ | refine (HCD.out _).mono ?_ | refine (HCB.out _).mono ?_ | refine (HCC.out _).mono ?_ | refine (HCF.out _).mono ?_); rintro e w' ⟨rfl, x2, rfl⟩)
    go_ret
    exact RetE.fin (hE.trans x2.h) (chkW_30 (fun h => HG.out h.recs) rfl)
  have hG' : ¬ 4 < (X.recs.length : Int) := by omega
  go_wp2_with (go_at_call 57; (with_reducible first | refine (HCA.out _).mono ?_ | refine (HCD.out _).mono ?_ | refine (HCB.out _).mono ?_ | refine (HCC.out _).mono ?_ | refine (HCF.out _).mono ?_); rintro e w' ⟨rfl, x1, rfl⟩)
  go_loopw [3] (fun i wr => ∃ k : Nat, k ≤ X.rough.length ∧ i = .int .i64 k ∧ ((∀ j (h : j < X.rough.length), j < k → 0 ≤ X.rough[j] ∧ X.rough[j] ≤ 99) ∧ ∀ j (h : j + 1 < X.rough.length), j + 1 < k → X.rough[j] ≤ X.rough[j+1]) ∧ ∃ x : ExtW W, wr = x.w) (fun i _ => X.rough.length - (intOf i).toNat)
  case atStart => exact ⟨0, by omega, rfl, ⟨fun j h hj => absurd hj (by omega), fun j h hj => absurd hj (by omega)⟩, x1, rfl⟩
  case round =>
    clear x1
    obtain ⟨k, hk, rfl, hr, x, rfl⟩ := hrel
    have HR := Lib.hid hr
    clear hr
    by_cases hlt : k < X.rough.length
    · obtain ⟨b, o, rfl, hc⟩ := k1.at k hlt
      have rc := ExtW.cell hc
      clear hc
      by_cases hw : 0 ≤ X.rough[k] ∧ X.rough[k] ≤ 99
      · have HW := Lib.hid hw
        have HWC := Lib.hid (rIn (W := W) hw)
        clear hw
        by_cases hk0 : 0 < k
        · obtain ⟨b', o', he, hc'⟩ := k1.at (k - 1) (by omega)
          obtain ⟨rfl, rfl⟩ : b = b' ∧ o = o' := by simpa using he
          clear he
          have rc' := ExtW.cell hc'
          clear hc'
          have hk0' : decide ((0 : Int) < k) = true := by simp; omega
          have hx : IntKind.i64.wrap ((k : Int) - 1) = (k : Int) - 1 := by rw [IntKind.wrap_i64]; omega
          have hx2 : ((k : Int) - 1).toNat = k - 1 := by omega
          have hx3 : 0 ≤ (k : Int) - 1 := by omega
          by_cases hle : X.rough[k] < X.rough[k-1]
          · have HL := Lib.hid hle
            have hle' : decide (X.rough[k] < X.rough[k-1]) = true := by simpa using hle
            clear hle
            go_upto_region 6 with (fail)
            refine wp_region_extW (by kernel_rfl) (by kernel_rfl) ?_
            repeat (go_big_quiet_step ((go_at_call 57; exact HWC.out _)))
            refine wpQuiet_nil ?_
            rintro _ ⟨x2, rfl⟩
            go_wp2
            go_ret
            refine RetE.fin (hE.trans x2.h) (chkW_30 (fun h => ?_) rfl)
            have := h.up (k-1) (by omega)
            simp only [show k - 1 + 1 = k from by omega] at this
            have := HL.out
            omega
          · have HL := Lib.hid hle
            have hle' : decide (X.rough[k] < X.rough[k-1]) = false := by simpa using hle
            clear hle
            go_upto_region 6 with (fail)
            refine wp_region_extW (by kernel_rfl) (by kernel_rfl) ?_
            repeat (go_big_quiet_step ((go_at_call 57; exact HWC.out _)))
            refine wpQuiet_nil ?_
            rintro _ ⟨x2, rfl⟩
            go_wp2
            go_roundw
            case rel => exact ⟨k + 1, by omega, by go_num, ⟨fun j h hj => by
                by_cases e : j < k
                · exact HR.out.1 j h e
                · obtain rfl : j = k := by omega
                  exact HW.out, fun j h hj => by
                by_cases e : j + 1 < k
                · exact HR.out.2 j h e
                · obtain rfl : k = j + 1 := by omega
                  have := HL.out
                  simp only [show j + 1 - 1 = j from by omega] at this
                  omega⟩, x2, rfl⟩
            case measure => simp [intOf]; omega
        · obtain rfl : k = 0 := by omega
          simp only [Nat.add_zero] at rc
          clear hk0
          go_upto_region 6 with (fail)
          refine wp_region_extW (by kernel_rfl) (by kernel_rfl) ?_
          repeat (go_big_quiet_step ((go_at_call 57; exact HWC.out _)))
          refine wpQuiet_nil ?_
          rintro _ ⟨x2, rfl⟩
          go_wp2
          go_roundw
          case rel => exact ⟨0 + 1, by omega, by go_num, ⟨fun j h hj => by
                obtain rfl : j = 0 := by omega
                exact HW.out, fun j h hj => absurd hj (by omega)⟩, x2, rfl⟩
          case measure => simp [intOf]; omega
      · have HW := Lib.hid hw
        have HWC := Lib.hid (rOut (W := W) hw)
        clear hw
        go_upto_region 6 with (fail)
        refine wp_region_extW (by kernel_rfl) (by kernel_rfl) ?_
        repeat (go_big_quiet_step ((go_at_call 57; exact HWC.out _)))
        refine wpQuiet_nil ?_
        rintro _ ⟨x2, rfl⟩
        go_wp2
        go_ret
        exact RetE.fin (hE.trans x2.h) (chkW_30 (fun h => HW.out (h.rg k hlt)) rfl)
    obtain rfl : k = X.rough.length := by omega
    have HRG := Lib.hid (show (∀ j (h : j < X.rough.length), 0 ≤ X.rough[j] ∧ X.rough[j] ≤ 99) ∧ ∀ j (h : j + 1 < X.rough.length), X.rough[j] ≤ X.rough[j+1] from ⟨fun j h => HR.out.1 j h h, fun j h => HR.out.2 j h h⟩)
    clear HR hlt hk
    go_wp2
    go_loopw [4] (fun i wr => ∃ k : Nat, k ≤ X.recs.length ∧ i = .int .i64 k ∧ (∀ j (h : j < X.recs.length), j < k → ROK X.weeks X.recs[j]) ∧ ∃ x : ExtW W, wr = x.w) (fun i _ => X.recs.length - (intOf i).toNat)
    case atStart => exact ⟨0, by omega, rfl, fun j h hj => absurd hj (by omega), x, rfl⟩
    case round =>
      clear x
      obtain ⟨k, hk, rfl, hr, x, rfl⟩ := hrel
      have HR := Lib.hid hr
      clear hr
      by_cases hlt : k < X.recs.length
      · obtain ⟨b, o, q', c', rfl, hc1, hc2, hc3, hc4, hq⟩ := k2.ext x.h k hlt
        go_upto_region 12 with (fail)
        have hn := heap_new x.w (.cells #[.int .i64 X.recs[k].worn, .int .i64 X.recs[k].limit, .int .i64 X.recs[k].price, .slice q' X.recs[k].plays.length c'] 54)
        obtain ⟨W2, hW2⟩ : ∃ W2, W2 = x.w.alloc (.cells #[.int .i64 X.recs[k].worn, .int .i64 X.recs[k].limit, .int .i64 X.recs[k].price, .slice q' X.recs[k].plays.length c'] 54) := ⟨_, rfl⟩
        have hE2 : Ext x.w W2 := by rw [hW2]; exact Ext.alloc (Ext.refl _) _
        rw [← hW2] at hn ⊢
        have n0 := ExtW.cell (v := .int .i64 X.recs[k].worn) (cell_of_heap hn 0)
        have n1 := ExtW.cell (v := .int .i64 X.recs[k].limit) (cell_of_heap hn 1)
        have n2 := ExtW.cell (v := .int .i64 X.recs[k].price) (cell_of_heap hn 2)
        have n3 := ExtW.cell (v := .slice q' X.recs[k].plays.length c') (cell_of_heap hn 3)
        have r0 := ExtW.cell (hE2.cell (q0 x))
        have r5 := ExtW.cell (hE2.cell (q5 x))
        have hEW := (hE.trans x.h).trans hE2
        have hmp := hM.plays k hlt
        obtain ⟨y0, hy0⟩ := ExtW.of (Ext.refl W2)
        clear hW2 hn hc1 hc2 hc3 hc4
        conv => arg 5; rw [hy0]
        clear hy0
        by_cases rA : 0 ≤ X.recs[k].worn ∧ X.recs[k].worn ≤ 99999
        case neg =>
          have RA := Lib.hid rA
          have RCA := Lib.hid (rOut (W := W2) rA)
          clear rA
          go_wp2_with (go_at_call 57; (with_reducible first | refine (RCA.out _).mono ?_); rintro e w' ⟨rfl, x3, rfl⟩)
          go_ret
          exact RetE.fin (hEW.trans x3.h) (chkW_30 (fun h => RA.out (h.rc k hlt).worn) rfl)
        have RA := Lib.hid rA
        have RCA := Lib.hid (rIn (W := W2) rA)
        clear rA
        by_cases rB : 0 ≤ X.recs[k].limit ∧ X.recs[k].limit ≤ 99999
        case neg =>
          have RB := Lib.hid rB
          have RCB := Lib.hid (rOut (W := W2) rB)
          clear rB
          go_wp2_with (go_at_call 57; (with_reducible first | refine (RCA.out _).mono ?_ | refine (RCB.out _).mono ?_); rintro e w' ⟨rfl, x3, rfl⟩)
          go_ret
          exact RetE.fin (hEW.trans x3.h) (chkW_30 (fun h => RB.out (h.rc k hlt).limit) rfl)
        have RB := Lib.hid rB
        have RCB := Lib.hid (rIn (W := W2) rB)
        clear rB
        by_cases rC : 0 ≤ X.recs[k].price ∧ X.recs[k].price ≤ 999
        case neg =>
          have RC := Lib.hid rC
          have RCC := Lib.hid (rOut (W := W2) rC)
          clear rC
          go_wp2_with (go_at_call 57; (with_reducible first | refine (RCA.out _).mono ?_ | refine (RCB.out _).mono ?_ | refine (RCC.out _).mono ?_); rintro e w' ⟨rfl, x3, rfl⟩)
          go_ret
          exact RetE.fin (hEW.trans x3.h) (chkW_30 (fun h => RC.out (h.rc k hlt).price) rfl)
        have RC := Lib.hid rC
        have RCC := Lib.hid (rIn (W := W2) rC)
        clear rC
        by_cases rD : (X.recs[k].plays.length : Int) = X.weeks
        case neg =>
          have RD := Lib.hid rD
          have rD' : ((X.recs[k].plays.length : Int) != X.weeks) = true := by simpa using rD
          clear rD
          go_wp2_with (go_at_call 57; (with_reducible first | refine (RCA.out _).mono ?_ | refine (RCB.out _).mono ?_ | refine (RCC.out _).mono ?_); rintro e w' ⟨rfl, x3, rfl⟩)
          go_ret
          exact RetE.fin (hEW.trans x3.h) (chkW_30 (fun h => RD.out (h.rc k hlt).len) rfl)
        have RD := Lib.hid rD
        have rD' : ((X.recs[k].plays.length : Int) != X.weeks) = false := by simpa using rD
        clear rD
        go_wp2_with (go_at_call 57; (with_reducible first | refine (RCA.out _).mono ?_ | refine (RCB.out _).mono ?_ | refine (RCC.out _).mono ?_); rintro e w' ⟨rfl, x3, rfl⟩)
        clear y0
        go_loopw [6] (fun i wr => ∃ m : Nat, m ≤ X.recs[k].plays.length ∧ i = .int .i64 m ∧ (∀ j (h : j < X.recs[k].plays.length), j < m → 0 ≤ X.recs[k].plays[j] ∧ X.recs[k].plays[j] ≤ 99) ∧ ∃ z : ExtW W2, wr = z.w) (fun i _ => X.recs[k].plays.length - (intOf i).toNat)
        case atStart => exact ⟨0, by omega, rfl, fun j h hj => absurd hj (by omega), x3, rfl⟩
        case round =>
          clear x3
          obtain ⟨m, hm, rfl, hr, z, rfl⟩ := hrel
          have HP := Lib.hid hr
          clear hr
          by_cases hlm : m < X.recs[k].plays.length
          · obtain ⟨b3, o3, rfl, hc⟩ := (hq.ext (hE2.trans z.h)).at m hlm
            by_cases hw : 0 ≤ X.recs[k].plays[m] ∧ X.recs[k].plays[m] ≤ 99
            · have HW := Lib.hid hw
              have HWC := Lib.hid (rIn (W := W2) hw)
              clear hw
              go_wp2_with (go_at_call 57; refine (HWC.out _).mono ?_; rintro e w' ⟨rfl, z2, rfl⟩)
              go_roundw
              case rel => exact ⟨m + 1, by omega, by go_num, fun j h hj => by
                  by_cases e : j < m
                  · exact HP.out j h e
                  · obtain rfl : j = m := by omega
                    exact HW.out, z2, rfl⟩
              case measure => simp [intOf]; omega
            · have HW := Lib.hid hw
              have HWC := Lib.hid (rOut (W := W2) hw)
              clear hw
              go_wp2_with (go_at_call 57; refine (HWC.out _).mono ?_; rintro e w' ⟨rfl, z2, rfl⟩)
              go_ret
              exact RetE.fin (hEW.trans z2.h) (chkW_30 (fun h => HW.out ((h.rc k hlt).play m hlm)) rfl)
          · obtain rfl : m = X.recs[k].plays.length := by omega
            have HPL := Lib.hid (fun j h => HP.out j h h)
            clear HP
            go_wp2
            go_roundw
            case rel => exact ⟨k + 1, by omega, by go_num, fun j h hj => by
                by_cases e : j < k
                · exact HR.out j h e
                · obtain rfl : j = k := by omega
                  exact ⟨RA.out, RB.out, RC.out, RD.out, HPL.out⟩, ⟨⟨z.w, (x.h.trans hE2).trans z.h⟩, rfl⟩⟩
            case measure => simp [intOf]; omega
      · go_wp2
        go_ret
        refine RetE.fin (hE.trans x.h) ?_
        rw [chkW_t ⟨HA.out, HB.out, HC.out, HD.out, HF.out, by omega, HRG.out.1, HRG.out.2, fun j h => HR.out j h (by omega)⟩]
        rfl
end Go.Proofs.Ytkcilgjkdiopnaa
namespace Go.Proofs.Ytkcilgjkdiopnaa
open Go.RowKit

/-- what every slice fulfils -/
structure BigW (X : Wr) : Prop where
  rough : X.rough.length ≤ 9223372036854775807
  recs : X.recs.length ≤ 9223372036854775807
  plays : ∀ r ∈ X.recs, r.plays.length ≤ 9223372036854775807
/-- what every plan fulfils -/
structure BigP (l : List Wk) : Prop where
  len : l.length ≤ 9223372036854775807
  recs : ∀ x ∈ l, x.recs.length ≤ 9223372036854775807

/-- a box that a statement leaves alone -/
def WideW (X : Wr) : Prop := 40 < X.rough.length ∨ 40 < X.recs.length ∨ ∃ r ∈ X.recs, 40 < r.plays.length
def FarW (X : Wr) : Prop := WideW X ∨ (ValidW X ∧ (4 < X.weeks ∨ 3 < X.recs.length))
def FarP (l : List Wk) : Prop := 40 < l.length ∨ ∃ x ∈ l, 40 < x.recs.length
/-- a box that a statement examines -/
def ReadyW (X : Wr) : Prop := ValidW X ∧ X.weeks ≤ 4 ∧ X.recs.length ≤ 3

theorem modest_of_w {X : Wr} (h : ¬WideW X) : ModestW X := by
  simp only [WideW, not_or, not_exists, not_and] at h
  obtain ⟨h1, h2, h3⟩ := h
  refine ⟨by omega, by omega, fun i hi => ?_⟩
  have := h3 _ (List.getElem_mem hi)
  omega
theorem not_wide_w {X : Wr} (hX : ValidW X) : ¬WideW X := by
  have h1 := hX.rough
  have h2 := hX.recs
  have h3 := hX.weeks
  rintro (h | h | ⟨r, hr, h⟩)
  · omega
  · omega
  · obtain ⟨i, hi, rfl⟩ := List.getElem_of_mem hr
    have := (hX.rc i hi).len
    omega
theorem modest_valid {X : Wr} (hX : ValidW X) : ModestW X := modest_of_w (not_wide_w hX)
theorem readyW_iff (X : Wr) : ReadyW X ↔ ¬FarW X ∧ ValidW X := by
  constructor
  · rintro ⟨h1, h2, h3⟩
    refine ⟨?_, h1⟩
    rintro (h | ⟨-, h | h⟩)
    · exact not_wide_w h1 h
    · omega
    · omega
  · rintro ⟨h1, h2⟩
    refine ⟨h2, Classical.byContradiction fun h => h1 (Or.inr ⟨h2, Or.inl (by omega)⟩), Classical.byContradiction fun h => h1 (Or.inr ⟨h2, Or.inr (by omega)⟩)⟩

set_option maxHeartbeats 1600000 in
theorem Far03 (v : Value) (X : Wr) (w : World) (hv : WrV w v X) (hM : BigW X) : Calls Try.prog 14 #[v] w (RetE (.bool (bP (FarW X))) w) := by
  have HV := Lib.hid hv
  obtain ⟨p, c, q, d, rfl, h1, h2⟩ := hv
  have m1 := hM.rough
  have m2 := hM.recs
  go_enter Try.func14, Try.ntmps14
  go_upto_region 1 with (fail)
  have hn := heap_new w (.cells (wrCells X p c q d) 25)
  unfold wrCells at hn
  obtain ⟨W, hW⟩ : ∃ W, W = w.alloc (.cells #[.int .i64 X.weeks, .int .i64 X.price, .int .i64 X.age, .int .i64 X.step, .slice p X.rough.length c, .slice q X.recs.length d] 25) := ⟨_, rfl⟩
  have hE : Ext w W := by rw [hW]; exact Ext.alloc (Ext.refl w) _
  rw [← hW] at hn ⊢
  have q0 := ExtW.cell (v := .int .i64 X.weeks) (cell_of_heap hn 0)
  have q1 := ExtW.cell (v := .int .i64 X.price) (cell_of_heap hn 1)
  have q2 := ExtW.cell (v := .int .i64 X.age) (cell_of_heap hn 2)
  have q3 := ExtW.cell (v := .int .i64 X.step) (cell_of_heap hn 3)
  have q4 := ExtW.cell (v := .slice p X.rough.length c) (cell_of_heap hn 4)
  have q5 := ExtW.cell (v := .slice q X.recs.length d) (cell_of_heap hn 5)
  obtain ⟨x0, hx0⟩ := ExtW.of (Ext.refl W)
  have k2 := h2.ext hE
  clear hW hn h1 h2
  conv => arg 5; rw [hx0]
  clear hx0
  by_cases fA : 40 < X.rough.length
  · go_wp2
    go_ret
    exact RetE.tt (hE.trans x0.h) (Or.inl (Or.inl fA))
  by_cases fB : 40 < X.recs.length
  · go_wp2
    go_ret
    exact RetE.tt (hE.trans x0.h) (Or.inl (Or.inr (Or.inl fB)))
  go_wp2
  go_loopw [3] (fun i wr => ∃ k : Nat, k ≤ X.recs.length ∧ i = .int .i64 k ∧ (∀ j (h : j < X.recs.length), j < k → X.recs[j].plays.length ≤ 40) ∧ ∃ x : ExtW W, wr = x.w) (fun i _ => X.recs.length - (intOf i).toNat)
  case atStart => exact ⟨0, by omega, rfl, fun j h hj => absurd hj (by omega), x0, rfl⟩
  case round =>
    clear x0
    obtain ⟨k, hk, rfl, hr, x, rfl⟩ := hrel
    have HR := Lib.hid hr
    clear hr
    by_cases hlt : k < X.recs.length
    · obtain ⟨b, o, q', c', rfl, -, -, -, hc4, -⟩ := k2.ext x.h k hlt
      have hmp := hM.plays _ (List.getElem_mem hlt)
      by_cases hp : 40 < X.recs[k].plays.length
      · go_wp2
        go_ret
        exact RetE.tt (hE.trans x.h) (Or.inl (Or.inr (Or.inr ⟨_, List.getElem_mem hlt, hp⟩)))
      · go_wp2
        go_roundw
        case rel => exact ⟨k + 1, by omega, by go_num, fun j h hj => by
            by_cases e : j < k
            · exact HR.out j h e
            · obtain rfl : j = k := by omega
              omega, x, rfl⟩
        case measure => simp [intOf]; omega
    · have hw : ¬WideW X := by
        rintro (h | h | ⟨r, hr, h⟩)
        · exact fA h
        · exact fB h
        · obtain ⟨i, hi, rfl⟩ := List.getElem_of_mem hr
          have := HR.out i hi (by omega)
          omega
      have HW := Lib.hid hw
      have hC := rCheck03 _ X x.w (WrV.mono _ _ _ _ (hE.trans x.h) HV.out) (modest_of_w hw)
      clear hw
      by_cases hX : ValidW X
      · rw [chkW_t hX] at hC
        have HC := Lib.hid (ExtW.call hC)
        have HX := Lib.hid hX
        clear hC hX
        by_cases g1 : 4 < X.weeks
        · go_wp2_with (go_at_call 20; refine HC.out.mono ?_; rintro e w' ⟨rfl, x2, rfl⟩)
          go_ret
          exact RetE.tt (hE.trans x2.h) (Or.inr ⟨HX.out, Or.inl g1⟩)
        · go_wp2_with (go_at_call 20; refine HC.out.mono ?_; rintro e w' ⟨rfl, x2, rfl⟩)
          go_ret
          refine RetE.of (hE.trans x2.h) ?_
          constructor
          · intro h
            have h' : 4 < X.weeks ∨ 3 < (X.recs.length : Int) := by simpa using h
            exact Or.inr ⟨HX.out, Or.inr (by omega)⟩
          · rintro (h | ⟨-, h | h⟩)
            · exact absurd h HW.out
            · omega
            · have h' : 4 < X.weeks ∨ 3 < (X.recs.length : Int) := Or.inr (by omega)
              simpa using h'
      · rw [chkW_f hX] at hC
        have HC := Lib.hid (ExtW.call hC)
        have HX := Lib.hid hX
        clear hC hX
        go_wp2_with (go_at_call 20; refine HC.out.mono ?_; rintro e w' ⟨rfl, x2, rfl⟩)
        go_ret
        refine RetE.ff (hE.trans x2.h) ?_
        rintro (h | ⟨h, -⟩)
        · exact HW.out h
        · exact HX.out h

set_option maxHeartbeats 800000 in
theorem farPlan03 (p : Option Addr) (l : List Wk) (c : Nat) (w : World) (h : WksAt w p l) (hM : BigP l) : Calls Try.prog 15 #[.slice p l.length c] w (RetE (.bool (bP (FarP l))) w) := by
  have m1 := hM.len
  go_enter Try.func15, Try.ntmps15
  by_cases fA : 40 < l.length
  · go_wp2
    go_ret
    exact RetE.tt (Ext.refl w) (Or.inl fA)
  go_wp2
  go_loop [3] (fun i => ∃ k : Nat, k ≤ l.length ∧ i = .int .i64 k ∧ (∀ j (h : j < l.length), j < k → l[j].recs.length ≤ 40)) (fun i => l.length - (intOf i).toNat)
  case atStart => exact ⟨0, by omega, rfl, fun j h hj => absurd hj (by omega)⟩
  case round =>
    obtain ⟨k, hk, rfl, hr⟩ := hrel
    have HR := Lib.hid hr
    clear hr
    by_cases hlt : k < l.length
    · obtain ⟨b, o, q', c', rfl, hc1, hc2, -⟩ := h k hlt
      have hmp := hM.recs _ (List.getElem_mem hlt)
      by_cases hp : 40 < l[k].recs.length
      · go_wp2
        go_ret
        exact RetE.tt (Ext.refl w) (Or.inr ⟨_, List.getElem_mem hlt, hp⟩)
      · go_wp2
        go_round
        case rel => exact ⟨k + 1, by omega, by go_num, fun j h hj => by
            by_cases e : j < k
            · exact HR.out j h e
            · obtain rfl : j = k := by omega
              omega⟩
        case measure => simp [intOf]; omega
    · go_wp2
      go_ret
      refine RetE.ff (Ext.refl w) ?_
      rintro (h | ⟨x, hx, h⟩)
      · exact fA h
      · obtain ⟨i, hi, rfl⟩ := List.getElem_of_mem hx
        have := HR.out i hi (by omega)
        omega

set_option maxHeartbeats 800000 in
theorem ready03 (v : Value) (X : Wr) (w : World) (hv : WrV w v X) (hM : BigW X) : Calls Try.prog 32 #[v] w (RetE (.bool (bP (ReadyW X))) w) := by
  have hF := fun w' (h : Ext w w') => Far03 v X w' (WrV.mono _ _ _ _ h hv) hM
  have hC := fun (hm : ModestW X) w' (h : Ext w w') => rCheck03 v X w' (WrV.mono _ _ _ _ h hv) hm
  obtain ⟨p, c, q, d, rfl, h1, h2⟩ := hv
  clear h1 h2
  have HF := Lib.hid hF
  have HC := Lib.hid hC
  clear hF hC
  go_enter Try.func32, Try.ntmps32
  go_upto_region 1 with (fail)
  have hn := heap_new w (.cells (wrCells X p c q d) 25)
  unfold wrCells at hn
  obtain ⟨W, hW⟩ : ∃ W, W = w.alloc (.cells #[.int .i64 X.weeks, .int .i64 X.price, .int .i64 X.age, .int .i64 X.step, .slice p X.rough.length c, .slice q X.recs.length d] 25) := ⟨_, rfl⟩
  have hE : Ext w W := by rw [hW]; exact Ext.alloc (Ext.refl w) _
  rw [← hW] at hn ⊢
  have q0 := ExtW.cell (v := .int .i64 X.weeks) (cell_of_heap hn 0)
  have q1 := ExtW.cell (v := .int .i64 X.price) (cell_of_heap hn 1)
  have q2 := ExtW.cell (v := .int .i64 X.age) (cell_of_heap hn 2)
  have q3 := ExtW.cell (v := .int .i64 X.step) (cell_of_heap hn 3)
  have q4 := ExtW.cell (v := .slice p X.rough.length c) (cell_of_heap hn 4)
  have q5 := ExtW.cell (v := .slice q X.recs.length d) (cell_of_heap hn 5)
  obtain ⟨x0, hx0⟩ := ExtW.of (Ext.refl W)
  clear hW hn
  conv => arg 5; rw [hx0]
  go_wp2_with fail
  refine (ExtW.call (HF.out _ (hE.trans x0.h))).mono ?_
  rintro e _ ⟨rfl, x1, rfl⟩
  by_cases hf : FarW X
  · rw [bP_t hf]
    have H := Lib.hid hf
    clear hf
    go_wp2
    go_ret
    exact RetE.ff (hE.trans x1.h) (fun h => ((readyW_iff X).1 h).1 H.out)
  · rw [bP_f hf]
    have HW := Lib.hid (fun h : WideW X => hf (Or.inl h))
    have H := Lib.hid hf
    clear hf
    by_cases hS : ValidW X
    · have hc := HC.out (modest_of_w HW.out) x1.w (hE.trans x1.h)
      rw [chkW_t hS] at hc
      have HC2 := Lib.hid (ExtW.call hc)
      have HS := Lib.hid hS
      clear hc hS
      go_wp2_with fail
      refine HC2.out.mono ?_
      rintro e _ ⟨rfl, x2, rfl⟩
      go_wp2
      go_ret
      exact RetE.tt (hE.trans x2.h) ((readyW_iff X).2 ⟨H.out, HS.out⟩)
    · have hc := HC.out (modest_of_w HW.out) x1.w (hE.trans x1.h)
      rw [chkW_f hS] at hc
      have HC2 := Lib.hid (ExtW.call hc)
      have HS := Lib.hid hS
      clear hc hS
      go_wp2_with fail
      refine HC2.out.mono ?_
      rintro e _ ⟨rfl, x2, rfl⟩
      go_wp2
      go_ret
      exact RetE.ff (hE.trans x2.h) (fun h => HS.out ((readyW_iff X).1 h).2)

set_option maxHeartbeats 1600000 in
theorem IsPlan03 (v : Value) (X : Wr) (pp : Option Addr) (l : List Wk) (pc : Nat) (w : World) (hv : WrV w v X) (hX : X.recs.length ≤ 100000) (hl : l.length ≤ 100000) (hr : ∀ x ∈ l, x.recs.length ≤ 100000) (h : WksAt w pp l) :
    Calls Try.prog 33 #[v, .slice pp l.length pc] w (RetE (.bool (bP (PlanOK X l))) w) := by
  obtain ⟨p, c, q, d, rfl, h1, h2⟩ := hv
  go_enter Try.func33, Try.ntmps33
  go_upto_region 1 with (fail)
  have hn := heap_new w (.cells (wrCells X p c q d) 25)
  unfold wrCells at hn
  obtain ⟨W, hW⟩ : ∃ W, W = w.alloc (.cells #[.int .i64 X.weeks, .int .i64 X.price, .int .i64 X.age, .int .i64 X.step, .slice p X.rough.length c, .slice q X.recs.length d] 25) := ⟨_, rfl⟩
  have hE : Ext w W := by rw [hW]; exact Ext.alloc (Ext.refl w) _
  rw [← hW] at hn ⊢
  have q0 := ExtW.cell (v := .int .i64 X.weeks) (cell_of_heap hn 0)
  have q5 := ExtW.cell (v := .slice q X.recs.length d) (cell_of_heap hn 5)
  obtain ⟨x0, hx0⟩ := ExtW.of (Ext.refl W)
  have k := h.ext hE
  clear hW hn h1 h2 h
  conv => arg 5; rw [hx0]
  clear hx0
  go_wp2
  go_loopw [5] (fun i wr => ∃ k : Nat, k ≤ l.length ∧ i = .int .i64 k ∧ (∀ j (h : j < l.length), j < k → WeekOK X.recs.length l[j]) ∧ ∃ x : ExtW W, wr = x.w) (fun i _ => l.length - (intOf i).toNat)
  case atStart => exact ⟨0, by omega, rfl, fun j h hj => absurd hj (by omega), x0, rfl⟩
  case round =>
    clear x0
    obtain ⟨n, hk, rfl, hrr, x, rfl⟩ := hrel
    have HR := Lib.hid hrr
    clear hrr
    by_cases hlt : n < l.length
    · obtain ⟨b, o, q', c', rfl, hc1, hc2, hi⟩ := k n hlt
      have e1 := ExtW.cell hc1
      have e2 := ExtW.cell hc2
      have hml := hr _ (List.getElem_mem hlt)
      have hRI := fun y : ExtW W => Rising01 q' l[n].recs c' 0 ((X.recs.length : Int) - 1) y.w (by omega) (hi.ext y.h)
      have hx1 : IntKind.i64.wrap ((X.recs.length : Int) - 1) = (X.recs.length : Int) - 1 := by rw [IntKind.wrap_i64]; omega
      clear hc1 hc2
      by_cases hw : 0 ≤ l[n].needle ∧ l[n].needle ≤ 1
      · have HW := Lib.hid hw
        have HWC := Lib.hid (rIn (W := W) hw)
        clear hw
        by_cases hri : Rises l[n].recs 0 ((X.recs.length : Int) - 1)
        · have HRC := Lib.hid (fun y : ExtW W => ExtW.call (RetQ.e (RetQ.bt hri (hRI y))))
          have HRI := Lib.hid hri
          clear hri hRI
          go_upto_region 4 with (fail)
          refine wp_region_extW (by kernel_rfl) (by kernel_rfl) ?_
          repeat (go_big_quiet_step ((first | (go_at_call 57; exact HWC.out _) | (go_at_call 72; exact HRC.out _))))
          refine wpQuiet_nil ?_
          rintro _ ⟨x2, rfl⟩
          go_wp2
          go_roundw
          case rel => exact ⟨n + 1, by omega, by go_num, fun j h hj => by
              by_cases e : j < n
              · exact HR.out j h e
              · obtain rfl : j = n := by omega
                exact ⟨HRI.out, HW.out⟩, x2, rfl⟩
          case measure => simp [intOf]; omega
        · have HRC := Lib.hid (fun y : ExtW W => ExtW.call (RetQ.e (RetQ.bf hri (hRI y))))
          have HRI := Lib.hid hri
          clear hri hRI
          go_upto_region 4 with (fail)
          refine wp_region_extW (by kernel_rfl) (by kernel_rfl) ?_
          repeat (go_big_quiet_step ((first | (go_at_call 57; exact HWC.out _) | (go_at_call 72; exact HRC.out _))))
          refine wpQuiet_nil ?_
          rintro _ ⟨x2, rfl⟩
          go_wp2
          go_ret
          exact RetE.ff (hE.trans x2.h) (fun h => HRI.out (h.2 _ (List.getElem_mem hlt)).1)
      · have HW := Lib.hid hw
        have HWC := Lib.hid (rOut (W := W) hw)
        clear hw hRI
        go_upto_region 4 with (fail)
        refine wp_region_extW (by kernel_rfl) (by kernel_rfl) ?_
        repeat (go_big_quiet_step ((go_at_call 57; exact HWC.out _)))
        refine wpQuiet_nil ?_
        rintro _ ⟨x2, rfl⟩
        go_wp2
        go_ret
        exact RetE.ff (hE.trans x2.h) (fun h => HW.out (h.2 _ (List.getElem_mem hlt)).2)
    · have HALL : Hid (∀ x ∈ l, WeekOK X.recs.length x) := Lib.hid fun y hy => by
        obtain ⟨i, hi, rfl⟩ := List.getElem_of_mem hy
        exact HR.out i hi (by omega)
      clear HR
      go_wp2
      go_ret
      refine RetE.of (hE.trans x.h) ?_
      constructor
      · intro h
        exact ⟨by simpa using h, HALL.out⟩
      · intro h
        simpa using h.1
end Go.Proofs.Ytkcilgjkdiopnaa
