
/- The data of package wear, as Lean sees it, and how they lie in memory. The walks of the small functions of package wear, and of its Check. The walk of wear.Check: what it returns, whatever the box. The walks of isWeek and of every, at the weeks of a plan. The walk of begin. What becomes of a box: plain definitions. Rows in memory of their own (what append lays), over steps of worlds. -/
import Derived.Test.YtppncdbhebgcaaaVA
import Derived.Test.YtppncdbhebgcaaaXC
import Derived.Test.YtppncdbhebgcaaaRows
import Derived.Deep.AppendLies
import Derived.Laws.AppendOwnNone
import Derived.Laws.OwnMore
namespace Go.Proofs.Ytppncdbhebgcaaa
open Go.RowKit

theorem Ext.trans' {a b c : World} (h : Ext a b) (k : Below a.heap.size b c) : Ext a c := Below.trans h k
theorem Ext.set {a b : World} {c o : Nat} {u : Value} (h : Ext a b) (h0 : a.heap.size ≤ c) : Ext a (b.setCell ⟨c, o, none⟩ u) := h.setCell (p := ⟨c, o, none⟩) h0 u
theorem RetE.of {P : Prop} {b : Bool} {w w' : World} (hw : Ext w w') (h : b = true ↔ P) : RetE (.bool (bP P)) w (.returned (.bool b)) w' := ⟨by rw [Bool.eq_iff_iff.2 (h.trans bP_iff.symm)], hw⟩
theorem RetQ.of {P : Prop} {b : Bool} {w w' : World} (hw : Qt w w') (h : b = true ↔ P) : RetQ (.bool (bP P)) w (.returned (.bool b)) w' := ⟨by rw [Bool.eq_iff_iff.2 (h.trans bP_iff.symm)], hw⟩
theorem Rises.nil (lo hi : Int) : Rises [] lo hi := ⟨fun i h => absurd h (by simp), fun i h => absurd h (by simp)⟩
theorem Rises.snoc {l : List Int} {lo hi : Int} {k : Nat} (hk : k < l.length) (h : Rises (l.take k) lo hi) (h1 : lo ≤ l[k]) (h2 : l[k] ≤ hi) (h3 : ∀ j (h : j + 1 = k), l[j]'(by omega) < l[k]) : Rises (l.take (k + 1)) lo hi := by
  obtain ⟨ha, hb⟩ := h
  refine ⟨fun i hi' => ?_, fun i hi' => ?_⟩
  · simp only [List.length_take] at hi'
    rw [List.getElem_take]
    by_cases e : i = k
    · subst e; exact ⟨h1, h2⟩
    · have := ha i (by simp only [List.length_take]; omega)
      rwa [List.getElem_take] at this
  · simp only [List.length_take] at hi'
    rw [List.getElem_take, List.getElem_take]
    by_cases e : i + 1 = k
    · subst e; exact h3 i rfl
    · have := hb i (by simp only [List.length_take]; omega)
      rwa [List.getElem_take, List.getElem_take] at this
theorem Rises.len {l : List Int} {n : Nat} (h : Rises l 0 ((n : Int) - 1)) : l.length ≤ n := by
  have key : ∀ i (hi : i < l.length), (i : Int) ≤ l[i] := by
    intro i
    induction i with
    | zero => intro hi; exact (h.1 0 hi).1
    | succ i ih =>
      intro hi
      have h1 := ih (by omega)
      have h2 := h.2 i hi
      omega
  by_cases h0 : l.length = 0
  · omega
  · have h1 := key (l.length - 1) (by omega)
    have h2 := (h.1 (l.length - 1) (by omega)).2
    omega
end Go.Proofs.Ytppncdbhebgcaaa
namespace Go.Proofs.Ytppncdbhebgcaaa.We
open Go.RowKit

structure Rec where
  worn : Int
  limit : Int
  price : Int
  plays : List Int

structure Wr where
  weeks : Int
  price : Int
  age : Int
  step : Int
  rough : List Int
  recs : List Rec

structure Wk where
  needle : Int
  recs : List Int

/-- a slice of records -/
def RecsAt (w : World) (p : Option Addr) (l : List Rec) : Prop :=
  ∀ i (h : i < l.length), ∃ b o q c, p = some ⟨b, o, none⟩ ∧ w.cell? ⟨b, o + i * 4, none⟩ = some (.int .i64 l[i].worn) ∧ w.cell? ⟨b, o + i * 4 + 1, none⟩ = some (.int .i64 l[i].limit) ∧
    w.cell? ⟨b, o + i * 4 + 2, none⟩ = some (.int .i64 l[i].price) ∧ w.cell? ⟨b, o + i * 4 + 3, none⟩ = some (.slice q l[i].plays.length c) ∧ IntsAt w q l[i].plays
theorem RecsAt.ext {w w' : World} {p : Option Addr} {l : List Rec} (h : RecsAt w p l) (hE : Ext w w') : RecsAt w' p l := by
  intro i hi
  obtain ⟨b, o, q, c, hp, h1, h2, h3, h4, h5⟩ := h i hi
  exact ⟨b, o, q, c, hp, hE.cell h1, hE.cell h2, hE.cell h3, hE.cell h4, h5.ext hE⟩
theorem RecsAt.nil (w : World) (p : Option Addr) : RecsAt w p [] := fun i h => absurd h (by simp)

/-- a slice of weeks of a plan -/
def WksAt (w : World) (p : Option Addr) (l : List Wk) : Prop :=
  ∀ i (h : i < l.length), ∃ b o q c, p = some ⟨b, o, none⟩ ∧ w.cell? ⟨b, o + i * 2, none⟩ = some (.int .i64 l[i].needle) ∧ w.cell? ⟨b, o + i * 2 + 1, none⟩ = some (.slice q l[i].recs.length c) ∧ IntsAt w q l[i].recs
theorem WksAt.ext {w w' : World} {p : Option Addr} {l : List Wk} (h : WksAt w p l) (hE : Ext w w') : WksAt w' p l := by
  intro i hi
  obtain ⟨b, o, q, c, hp, h1, h2, h3⟩ := h i hi
  exact ⟨b, o, q, c, hp, hE.cell h1, hE.cell h2, h3.ext hE⟩

/-- a box by value -/
def WrV (w : World) (v : Value) (X : Wr) : Prop := ∃ p c q d,
  v = .agg #[.int .i64 X.weeks, .int .i64 X.price, .int .i64 X.age, .int .i64 X.step, .slice p X.rough.length c, .slice q X.recs.length d] ∧ IntsAt w p X.rough ∧ RecsAt w q X.recs
theorem WrV.mono : Mono WrV := by
  rintro w w' v X hE ⟨p, c, q, d, rfl, h1, h2⟩
  exact ⟨p, c, q, d, rfl, h1.ext hE, h2.ext hE⟩
/-- a week of a plan by value -/
def WkV (w : World) (v : Value) (x : Wk) : Prop := ∃ q c, v = .agg #[.int .i64 x.needle, .slice q x.recs.length c] ∧ IntsAt w q x.recs
theorem WkV.mono : Mono WkV := by
  rintro w w' v X hE ⟨q, c, rfl, h2⟩
  exact ⟨q, c, rfl, h2.ext hE⟩
/-- a record by value -/
def RecV (w : World) (v : Value) (x : Rec) : Prop := ∃ q c, v = .agg #[.int .i64 x.worn, .int .i64 x.limit, .int .i64 x.price, .slice q x.plays.length c] ∧ IntsAt w q x.plays
theorem RecV.mono : Mono RecV := by
  rintro w w' v X hE ⟨q, c, rfl, h2⟩
  exact ⟨q, c, rfl, h2.ext hE⟩

/-- a record that is right for so many weeks -/
structure ROK (n : Int) (r : Rec) : Prop where
  worn : 0 ≤ r.worn ∧ r.worn ≤ 99999
  limit : 0 ≤ r.limit ∧ r.limit ≤ 99999
  price : 0 ≤ r.price ∧ r.price ≤ 999
  len : (r.plays.length : Int) = n
  play : ∀ k (h : k < r.plays.length), 0 ≤ r.plays[k] ∧ r.plays[k] ≤ 99

structure ValidW (X : Wr) : Prop where
  weeks : 0 ≤ X.weeks ∧ X.weeks ≤ 6
  age : 0 ≤ X.age ∧ X.age ≤ 9999
  step : 1 ≤ X.step ∧ X.step ≤ 999
  price : 0 ≤ X.price ∧ X.price ≤ 999
  rough : 1 ≤ (X.rough.length : Int) ∧ (X.rough.length : Int) ≤ 8
  recs : X.recs.length ≤ 4
  rg : ∀ i (h : i < X.rough.length), 0 ≤ X.rough[i] ∧ X.rough[i] ≤ 99
  up : ∀ i (h : i + 1 < X.rough.length), X.rough[i] ≤ X.rough[i+1]
  rc : ∀ i (h : i < X.recs.length), ROK X.weeks X.recs[i]

/-- lists that are not too long to be walked over -/
structure ModestW (X : Wr) : Prop where
  rough : X.rough.length ≤ 100000
  recs : X.recs.length ≤ 100000
  plays : ∀ i (h : i < X.recs.length), X.recs[i].plays.length ≤ 100000

noncomputable def chkW (X : Wr) : Int := if bP (ValidW X) = true then 0 else 30
theorem chkW_t {X : Wr} (h : ValidW X) : chkW X = 0 := by rw [chkW, if_pos (bP_t h)]
theorem chkW_f {X : Wr} (h : ¬ValidW X) : chkW X = 30 := by rw [chkW, if_neg (by rw [bP_f h]; simp)]
theorem chkW_30 {X : Wr} (h : ¬ValidW X) {v : Value} (hv : v = .int .i64 30) : v = .int .i64 (chkW X) := by rw [hv, chkW_f h]

theorem cell_of_heap {w : World} {b : Nat} {cs : Array Value} {t : TypeId} {f : Nat × Nat} (h : w.heap[b]? = some (.cells cs t f)) (o : Nat) : w.cell? ⟨b, o, none⟩ = cs[o]? := by
  simp [World.cell?, h]
theorem heap_new (w : World) (o : Obj) : (w.alloc o).heap[w.heap.size]? = some o := by
  show (w.heap.push o)[w.heap.size]? = some o
  simp
theorem heap_new1 (w : World) (o u : Obj) : ((w.alloc o).alloc u).heap[w.heap.size]? = some o := by
  rw [Below.heap_alloc _ _ _ (by simp), heap_new]
theorem heap_new2 (w : World) (o u : Obj) : ((w.alloc o).alloc u).heap[w.heap.size + 1]? = some u := by
  have := heap_new (w.alloc o) u
  rwa [World.size_alloc] at this
theorem cell_frozen {w : World} {B : Nat} {cs : Array Value} {t : TypeId} (h : w.heap[B]? = some (.cells cs t (0, 0))) (k : Nat) : w.frozen? ⟨B, k, none⟩ = false := by
  simp [World.frozen?, h]
theorem heap_set6 {W : World} {B : Nat} {a0 a1 a2 a3 a4 a5 u0 u1 u2 u3 u4 u5 : Value} {t : TypeId} {f : Nat × Nat} (h : W.heap[B]? = some (.cells #[a0, a1, a2, a3, a4, a5] t f)) :
    ((((((W.setCell ⟨B, 0, none⟩ u0).setCell ⟨B, 1, none⟩ u1).setCell ⟨B, 2, none⟩ u2).setCell ⟨B, 3, none⟩ u3).setCell ⟨B, 4, none⟩ u4).setCell ⟨B, 5, none⟩ u5).heap[B]? = some (.cells #[u0, u1, u2, u3, u4, u5] t f) :=
  heap_set (heap_set (heap_set (heap_set (heap_set (heap_set h rfl) rfl) rfl) rfl) rfl) rfl
/-- the cells of a box -/
def wrCells (X : Wr) (p : Option Addr) (c : Nat) (q : Option Addr) (d : Nat) : Array Value :=
  #[.int .i64 X.weeks, .int .i64 X.price, .int .i64 X.age, .int .i64 X.step, .slice p X.rough.length c, .slice q X.recs.length d]
def IdxPost (p : Prop) (w : World) (e : Ending) (w' : World) : Prop := ∃ n : Int, e = .returned (.int .i64 n) ∧ (0 ≤ n ↔ p) ∧ Ext w w'
end Go.Proofs.Ytppncdbhebgcaaa.We
namespace Go.Proofs.Ytppncdbhebgcaaa.We
open Go.RowKit

set_option maxHeartbeats 400000 in
theorem within03 (n lo hi : Int) (w : World) :
    Calls Try.prog 70 #[.int .i64 n, .int .i64 lo, .int .i64 hi] w (RetQ (.bool (bP (lo ≤ n ∧ n ≤ hi))) w) := by
  go_enter Try.func70, Try.ntmps70
  by_cases h1 : lo ≤ n
  · by_cases h2 : n ≤ hi
    · go_wp2
      go_ret
      exact RetQ.t0 ⟨h1, h2⟩
    · go_wp2
      go_ret
      exact RetQ.f0 (by omega)
  · go_wp2
    go_ret
    exact RetQ.f0 (by omega)

/-- a function value that asks each element of a list -/
def Asks {α : Type} (R : World → Value → α → Prop) (g : Nat) (fst cap : Array Value) (w : World) (l : List α) (p : α → Prop) : Prop :=
  (∀ args w, (callFunc g args).run Try.prog w = .ok (.enter g args) w) ∧ ∀ w' v x, Ext w w' → x ∈ l → R w' v x → Calls Try.prog g (fst ++ #[v] ++ cap) w' (RetE (.bool (bP (p x))) w')

set_option maxHeartbeats 800000 in
theorem IndexFuncInt (p : Option Addr) (l : List Int) (c g : Nat) (cap : Array Value) (w : World) (q : Int → Prop) (hl : l.length ≤ 100000) (h : IntsAt w p l) (ha : Asks IntR g #[] cap w l q) :
    Calls Try.prog 99 #[.slice p l.length c, .func (.func g) #[] cap] w (IdxPost (∃ x ∈ l, q x) w) := by
  obtain ⟨hcall, hf⟩ := ha
  have HF := Lib.hid hf
  clear hf
  go_enter Try.func99, Try.ntmps99
  go_wp2
  go_loopw [8] (fun i wr => ∃ k : Nat, k ≤ l.length ∧ i = .int .i64 k ∧ (∀ x ∈ l.take k, ¬q x) ∧ Ext w wr) (fun i _ => l.length - (intOf i).toNat)
  case atStart => exact ⟨0, by omega, rfl, by simp, Ext.refl _⟩
  case round =>
    obtain ⟨k, hk, rfl, hr, hE⟩ := hrel
    have HR := Lib.hid hr
    clear hr
    by_cases hlt : k < l.length
    · obtain ⟨b, o, rfl, hc⟩ := (h.ext hE).at k hlt
      have hC := HF.out wr (.int .i64 l[k]) l[k] hE (List.getElem_mem hlt) rfl
      simp only [List.append_toArray, List.nil_append] at hC
      by_cases hq : q l[k]
      · have HC := Lib.hid (RetE.bt hq hC)
        have HQ := Lib.hid hq
        clear hC hq
        go_wp2_with fail
        refine HC.out.mono ?_
        rintro e W2 ⟨rfl, hE2⟩
        go_wp2
        go_ret
        exact ⟨k, rfl, ⟨fun _ => ⟨_, List.getElem_mem hlt, HQ.out⟩, fun _ => by omega⟩, hE.trans hE2⟩
      · have HC := Lib.hid (RetE.bf hq hC)
        have HQ := Lib.hid hq
        clear hC hq
        go_wp2_with fail
        refine HC.out.mono ?_
        rintro e W2 ⟨rfl, hE2⟩
        go_wp2
        go_roundw
        case rel => exact ⟨k + 1, by omega, by go_num, by
          rw [List.take_succ_eq_append_getElem hlt]
          intro x hx
          rcases List.mem_append.1 hx with h1 | h1
          · exact HR.out x h1
          · rw [List.mem_singleton.1 h1]; exact HQ.out, hE.trans hE2⟩
        case measure => simp [intOf]; omega
    · go_wp2
      go_ret
      exact ⟨-1, rfl, ⟨fun h => absurd h (by decide), fun ⟨x, hx, hqx⟩ => absurd hqx (HR.out x (by rwa [List.take_of_length_le (by omega)]))⟩, hE⟩

set_option maxHeartbeats 400000 in
theorem ContainsFuncInt (p : Option Addr) (l : List Int) (c g : Nat) (cap : Array Value) (w : World) (q : Int → Prop) (hl : l.length ≤ 100000) (h : IntsAt w p l) (ha : Asks IntR g #[] cap w l q) :
    Calls Try.prog 91 #[.slice p l.length c, .func (.func g) #[] cap] w (RetE (.bool (bP (∃ x ∈ l, q x))) w) := by
  have HC := Lib.hid (IndexFuncInt p l c g cap w q hl h ha)
  clear ha
  go_enter Try.func91, Try.ntmps91
  go_wp2_with fail
  refine HC.out.mono ?_
  rintro e W2 ⟨n, rfl, hn, hE2⟩
  have HN := Lib.hid hn
  clear hn
  go_wp2
  go_ret
  exact RetE.of hE2 (by rw [← HN.out]; simp)

def PlayOK (n : Int) : Prop := 0 ≤ n ∧ n ≤ 99
set_option maxHeartbeats 400000 in
theorem isPlays03 (n : Int) (w : World) : Calls Try.prog 71 #[.int .i64 n] w (RetQ (.bool (bP (PlayOK n))) w) := by
  have HC := Lib.hid (within03 n 0 99 w)
  go_enter Try.func71, Try.ntmps71
  go_wp2_with (go_at_call 70; refine HC.out.mono ?_; rintro e w' ⟨rfl, m, rfl⟩)
  go_ret
  exact RetQ.fin (by repeat (first | exact Qt.refl _ | assumption | refine Qt.drewN ?_ _ | refine Qt.drew ?_)) rfl

set_option maxHeartbeats 400000 in
theorem notPlays03 (n : Int) (B : Nat) (w : World) (hB : w.cell? ⟨B, 0, none⟩ = some (.func (.func 71) #[] #[])) :
    Calls Try.prog 92 #[.int .i64 n, .pointer (some ⟨B, 0, none⟩)] w (RetE (.bool (bP (¬PlayOK n))) w) := by
  have hcall := Try.call71
  by_cases h : PlayOK n
  · have HC := Lib.hid (RetQ.bt h (isPlays03 n w))
    have H := Lib.hid h
    clear h
    go_enter Try.func92, Try.ntmps92
    go_wp2_with (go_at_call 71; refine HC.out.mono ?_; rintro e w' ⟨rfl, m, rfl⟩)
    go_ret
    exact RetE.ff (Qt.ext (by repeat (first | exact Qt.refl _ | assumption | refine Qt.drewN ?_ _ | refine Qt.drew ?_))) (fun h => h H.out)
  · have HC := Lib.hid (RetQ.bf h (isPlays03 n w))
    have H := Lib.hid h
    clear h
    go_enter Try.func92, Try.ntmps92
    go_wp2_with (go_at_call 71; refine HC.out.mono ?_; rintro e w' ⟨rfl, m, rfl⟩)
    go_ret
    exact RetE.tt (Qt.ext (by repeat (first | exact Qt.refl _ | assumption | refine Qt.drewN ?_ _ | refine Qt.drew ?_))) H.out

set_option maxHeartbeats 400000 in
theorem everyPlays03 (p : Option Addr) (l : List Int) (c : Nat) (w : World) (hl : l.length ≤ 100000) (h : IntsAt w p l) :
    Calls Try.prog 72 #[.slice p l.length c, .func (.func 71) #[] #[]] w (RetE (.bool (bP (∀ n ∈ l, PlayOK n))) w) := by
  go_enter Try.func72, Try.ntmps72
  go_upto_region 1 with (fail)
  have hn := heap_new w (.cells #[.func (.func 71) #[] #[]] 31)
  obtain ⟨W, hW⟩ : ∃ W, W = w.alloc (.cells #[.func (.func 71) #[] #[]] 31) := ⟨_, rfl⟩
  have hE : Ext w W := by rw [hW]; exact Ext.alloc (Ext.refl w) _
  rw [← hW] at hn ⊢
  have hA := ContainsFuncInt p l c 92 #[.pointer (some ⟨w.heap.size, 0, none⟩)] W (fun n => ¬PlayOK n) hl (h.ext hE) ⟨Try.call92, fun w' v x hw' _ hv => by
    rw [show v = .int .i64 x from hv]; exact notPlays03 x w.heap.size w' (hw'.cell (cell_of_heap hn 0))⟩
  have HC := Lib.hid hA
  clear hW hn hA
  go_wp2_with fail
  refine HC.out.mono ?_
  rintro e W2 ⟨rfl, hE2⟩
  go_wp2
  go_ret
  refine RetE.of (hE.trans hE2) ?_
  by_cases hq : ∃ x ∈ l, ¬PlayOK x
  · rw [bP_t hq]
    obtain ⟨x, hx, hn⟩ := hq
    exact ⟨fun h => by simp at h, fun h => absurd (h x hx) hn⟩
  · rw [bP_f hq]
    exact ⟨fun _ n hn => Classical.byContradiction fun h => hq ⟨n, hn, h⟩, fun _ => by simp⟩
end Go.Proofs.Ytppncdbhebgcaaa.We
namespace Go.Proofs.Ytppncdbhebgcaaa.We
open Go.RowKit

theorem wIn {W : World} {n lo hi : Int} (h : lo ≤ n ∧ n ≤ hi) (y : ExtW W) : Calls Try.prog 70 #[.int .i64 n, .int .i64 lo, .int .i64 hi] y.w fun e w'' => e = .returned (.bool true) ∧ ∃ z : ExtW W, w'' = z.w :=
  ExtW.call (RetQ.e (RetQ.bt h (within03 n lo hi y.w)))
theorem wOut {W : World} {n lo hi : Int} (h : ¬(lo ≤ n ∧ n ≤ hi)) (y : ExtW W) : Calls Try.prog 70 #[.int .i64 n, .int .i64 lo, .int .i64 hi] y.w fun e w'' => e = .returned (.bool false) ∧ ∃ z : ExtW W, w'' = z.w :=
  ExtW.call (RetQ.e (RetQ.bf h (within03 n lo hi y.w)))

set_option maxHeartbeats 1600000 in
theorem Check03 (v : Value) (X : Wr) (w : World) (hv : WrV w v X) (hM : ModestW X) : Calls Try.prog 49 #[v] w (RetE (.int .i64 (chkW X)) w) := by
  obtain ⟨p, c, q, d, rfl, h1, h2⟩ := hv
  have m1 := hM.rough
  have m2 := hM.recs
  go_enter Try.func49, Try.ntmps49
  go_upto_region 1 with (fail)
  have hn := heap_new w (.cells (wrCells X p c q d) 57)
  unfold wrCells at hn
  obtain ⟨W, hW⟩ : ∃ W, W = w.alloc (.cells #[.int .i64 X.weeks, .int .i64 X.price, .int .i64 X.age, .int .i64 X.step, .slice p X.rough.length c, .slice q X.recs.length d] 57) := ⟨_, rfl⟩
  have hE : Ext w W := by rw [hW]; exact Ext.alloc (Ext.refl w) _
  rw [← hW] at hn ⊢
  have q0 := ExtW.cell (v := .int .i64 X.weeks) (cell_of_heap hn 0)
  have q1 := ExtW.cell (v := .int .i64 X.price) (cell_of_heap hn 1)
  have q2 := ExtW.cell (v := .int .i64 X.age) (cell_of_heap hn 2)
  have q3 := ExtW.cell (v := .int .i64 X.step) (cell_of_heap hn 3)
  have q4 := ExtW.cell (v := .slice p X.rough.length c) (cell_of_heap hn 4)
  have q5 := ExtW.cell (v := .slice q X.recs.length d) (cell_of_heap hn 5)
  obtain ⟨x0, hx0⟩ := ExtW.of (Ext.refl W)
  have k1 := h1.ext hE
  have k2 := h2.ext hE
  clear hW hn h1 h2
  conv => arg 5; rw [hx0]
  clear hx0
  by_cases hA : 0 ≤ X.weeks ∧ X.weeks ≤ 6
  case neg =>
    have HA := Lib.hid hA
    have HCA := Lib.hid (wOut (W := W) hA)
    clear hA
    go_wp2_with (first | (go_at_call 70; (with_reducible first | refine (HCA.out _).mono ?_); rintro e w' ⟨rfl, x2, rfl⟩))
    go_ret
    exact RetE.fin (hE.trans x2.h) (chkW_30 (fun h => HA.out h.weeks) rfl)
  have HA := Lib.hid hA
  have HCA := Lib.hid (wIn (W := W) hA)
  clear hA
  by_cases hB : 0 ≤ X.age ∧ X.age ≤ 9999
  case neg =>
    have HB := Lib.hid hB
    have HCB := Lib.hid (wOut (W := W) hB)
    clear hB
    go_wp2_with (first | (go_at_call 70; (with_reducible first | refine (HCA.out _).mono ?_ | refine (HCB.out _).mono ?_); rintro e w' ⟨rfl, x2, rfl⟩))
    go_ret
    exact RetE.fin (hE.trans x2.h) (chkW_30 (fun h => HB.out h.age) rfl)
  have HB := Lib.hid hB
  have HCB := Lib.hid (wIn (W := W) hB)
  clear hB
  by_cases hC : 1 ≤ X.step ∧ X.step ≤ 999
  case neg =>
    have HC := Lib.hid hC
    have HCC := Lib.hid (wOut (W := W) hC)
    clear hC
    go_wp2_with (first | (go_at_call 70; (with_reducible first | refine (HCA.out _).mono ?_ | refine (HCB.out _).mono ?_ | refine (HCC.out _).mono ?_); rintro e w' ⟨rfl, x2, rfl⟩))
    go_ret
    exact RetE.fin (hE.trans x2.h) (chkW_30 (fun h => HC.out h.step) rfl)
  have HC := Lib.hid hC
  have HCC := Lib.hid (wIn (W := W) hC)
  clear hC
  by_cases hD : 0 ≤ X.price ∧ X.price ≤ 999
  case neg =>
    have HD := Lib.hid hD
    have HCD := Lib.hid (wOut (W := W) hD)
    clear hD
    go_wp2_with (first | (go_at_call 70; (with_reducible first | refine (HCA.out _).mono ?_ | refine (HCB.out _).mono ?_ | refine (HCC.out _).mono ?_ | refine (HCD.out _).mono ?_); rintro e w' ⟨rfl, x2, rfl⟩))
    go_ret
    exact RetE.fin (hE.trans x2.h) (chkW_30 (fun h => HD.out h.price) rfl)
  have HD := Lib.hid hD
  have HCD := Lib.hid (wIn (W := W) hD)
  clear hD
  by_cases hF : 1 ≤ (X.rough.length : Int) ∧ (X.rough.length : Int) ≤ 8
  case neg =>
    have HF := Lib.hid hF
    have HCF := Lib.hid (wOut (W := W) hF)
    clear hF
    go_wp2_with (first | (go_at_call 70; (with_reducible first | refine (HCA.out _).mono ?_ | refine (HCB.out _).mono ?_ | refine (HCC.out _).mono ?_ | refine (HCD.out _).mono ?_ | refine (HCF.out _).mono ?_); rintro e w' ⟨rfl, x2, rfl⟩))
    go_ret
    exact RetE.fin (hE.trans x2.h) (chkW_30 (fun h => HF.out h.rough) rfl)
  have HF := Lib.hid hF
  have HCF := Lib.hid (wIn (W := W) hF)
  clear hF
  by_cases hG : X.recs.length ≤ 4
  case neg =>
    have HG := Lib.hid hG
    have hG' : 4 < (X.recs.length : Int) := by omega
    clear hG
    go_wp2_with (first | (go_at_call 70; (with_reducible first | refine (HCA.out _).mono ?_ | refine (HCB.out _).mono ?_ | refine (HCC.out _).mono ?_ | refine (HCD.out _).mono ?_ | refine (HCF.out _).mono ?_); rintro e w' ⟨rfl, x2, rfl⟩))
    go_ret
    exact RetE.fin (hE.trans x2.h) (chkW_30 (fun h => HG.out h.recs) rfl)
  have hG' : ¬ 4 < (X.recs.length : Int) := by omega
  go_wp2_with (first | (go_at_call 70; (with_reducible first | refine (HCA.out _).mono ?_ | refine (HCB.out _).mono ?_ | refine (HCC.out _).mono ?_ | refine (HCD.out _).mono ?_ | refine (HCF.out _).mono ?_); rintro e w' ⟨rfl, x1, rfl⟩))
  go_loopw [46] (fun i wr => ∃ k : Nat, k ≤ X.rough.length ∧ i = .int .i64 k ∧ ((∀ j (h : j < X.rough.length), j < k → 0 ≤ X.rough[j] ∧ X.rough[j] ≤ 99) ∧ ∀ j (h : j + 1 < X.rough.length), j + 1 < k → X.rough[j] ≤ X.rough[j+1]) ∧ ∃ x : ExtW W, wr = x.w) (fun i _ => X.rough.length - (intOf i).toNat)
  case atStart => exact ⟨0, by omega, rfl, ⟨fun j h hj => absurd hj (by omega), fun j h hj => absurd hj (by omega)⟩, x1, rfl⟩
  case round =>
    clear x1
    obtain ⟨k, hk, rfl, hr, x, rfl⟩ := hrel
    have HR := Lib.hid hr
    clear hr
    by_cases hlt : k < X.rough.length
    · obtain ⟨b, o, rfl, hc⟩ := k1.at k hlt
      have rc := ExtW.cell hc
      clear hc
      by_cases hw : 0 ≤ X.rough[k] ∧ X.rough[k] ≤ 99
      · have HW := Lib.hid hw
        have HWC := Lib.hid (wIn (W := W) hw)
        clear hw
        by_cases hk0 : 0 < k
        · obtain ⟨b', o', he, hc'⟩ := k1.at (k - 1) (by omega)
          obtain ⟨rfl, rfl⟩ : b = b' ∧ o = o' := by simpa using he
          clear he
          have rc' := ExtW.cell hc'
          clear hc'
          have hk0' : decide ((0 : Int) < k) = true := by simp; omega
          have hx : IntKind.i64.wrap ((k : Int) - 1) = (k : Int) - 1 := by rw [IntKind.wrap_i64]; omega
          have hx2 : ((k : Int) - 1).toNat = k - 1 := by omega
          have hx3 : 0 ≤ (k : Int) - 1 := by omega
          by_cases hle : X.rough[k] < X.rough[k-1]
          · have HL := Lib.hid hle
            have hle' : decide (X.rough[k] < X.rough[k-1]) = true := by simpa using hle
            clear hle
            go_wp2_with (go_at_call 70; refine (HWC.out _).mono ?_; rintro e w' ⟨rfl, x2, rfl⟩)
            go_ret
            refine RetE.fin (hE.trans x2.h) (chkW_30 (fun h => ?_) rfl)
            have := h.up (k-1) (by omega)
            simp only [show k - 1 + 1 = k from by omega] at this
            have := HL.out
            omega
          · have HL := Lib.hid hle
            have hle' : decide (X.rough[k] < X.rough[k-1]) = false := by simpa using hle
            clear hle
            go_wp2_with (go_at_call 70; refine (HWC.out _).mono ?_; rintro e w' ⟨rfl, x2, rfl⟩)
            go_roundw
            case rel => exact ⟨k + 1, by omega, by go_num, ⟨fun j h hj => by
                by_cases e : j < k
                · exact HR.out.1 j h e
                · obtain rfl : j = k := by omega
                  exact HW.out, fun j h hj => by
                by_cases e : j + 1 < k
                · exact HR.out.2 j h e
                · obtain rfl : k = j + 1 := by omega
                  have := HL.out
                  simp only [show j + 1 - 1 = j from by omega] at this
                  omega⟩, x2, rfl⟩
            case measure => simp [intOf]; omega
        · obtain rfl : k = 0 := by omega
          simp only [Nat.add_zero] at rc
          clear hk0
          go_wp2_with (go_at_call 70; refine (HWC.out _).mono ?_; rintro e w' ⟨rfl, x2, rfl⟩)
          go_roundw
          case rel => exact ⟨0 + 1, by omega, by go_num, ⟨fun j h hj => by
                obtain rfl : j = 0 := by omega
                exact HW.out, fun j h hj => absurd hj (by omega)⟩, x2, rfl⟩
          case measure => simp [intOf]; omega
      · have HW := Lib.hid hw
        have HWC := Lib.hid (wOut (W := W) hw)
        clear hw
        go_wp2_with (go_at_call 70; refine (HWC.out _).mono ?_; rintro e w' ⟨rfl, x2, rfl⟩)
        go_ret
        exact RetE.fin (hE.trans x2.h) (chkW_30 (fun h => HW.out (h.rg k hlt)) rfl)
    obtain rfl : k = X.rough.length := by omega
    have HRG := Lib.hid (show (∀ j (h : j < X.rough.length), 0 ≤ X.rough[j] ∧ X.rough[j] ≤ 99) ∧ ∀ j (h : j + 1 < X.rough.length), X.rough[j] ≤ X.rough[j+1] from ⟨fun j h => HR.out.1 j h h, fun j h => HR.out.2 j h h⟩)
    clear HR hlt hk
    go_wp2
    go_loopw [72] (fun i wr => ∃ k : Nat, k ≤ X.recs.length ∧ i = .int .i64 k ∧ (∀ j (h : j < X.recs.length), j < k → ROK X.weeks X.recs[j]) ∧ ∃ x : ExtW W, wr = x.w) (fun i _ => X.recs.length - (intOf i).toNat)
    case atStart => exact ⟨0, by omega, rfl, fun j h hj => absurd hj (by omega), x, rfl⟩
    case round =>
      clear x
      obtain ⟨k, hk, rfl, hr, x, rfl⟩ := hrel
      have HR := Lib.hid hr
      clear hr
      by_cases hlt : k < X.recs.length
      · obtain ⟨b, o, q', c', rfl, hc1, hc2, hc3, hc4, hq⟩ := k2.ext x.h k hlt
        go_upto_region 13 with (fail)
        have hn := heap_new x.w (.cells #[.int .i64 X.recs[k].worn, .int .i64 X.recs[k].limit, .int .i64 X.recs[k].price, .slice q' X.recs[k].plays.length c'] 59)
        obtain ⟨W2, hW2⟩ : ∃ W2, W2 = x.w.alloc (.cells #[.int .i64 X.recs[k].worn, .int .i64 X.recs[k].limit, .int .i64 X.recs[k].price, .slice q' X.recs[k].plays.length c'] 59) := ⟨_, rfl⟩
        have hE2 : Ext x.w W2 := by rw [hW2]; exact Ext.alloc (Ext.refl _) _
        rw [← hW2] at hn ⊢
        have n0 := ExtW.cell (v := .int .i64 X.recs[k].worn) (cell_of_heap hn 0)
        have n1 := ExtW.cell (v := .int .i64 X.recs[k].limit) (cell_of_heap hn 1)
        have n2 := ExtW.cell (v := .int .i64 X.recs[k].price) (cell_of_heap hn 2)
        have n3 := ExtW.cell (v := .slice q' X.recs[k].plays.length c') (cell_of_heap hn 3)
        have r0 := ExtW.cell (hE2.cell (q0 x))
        have r5 := ExtW.cell (hE2.cell (q5 x))
        have hEW := (hE.trans x.h).trans hE2
        obtain ⟨y0, hy0⟩ := ExtW.of (Ext.refl W2)
        clear hW2 hn hc1 hc2 hc3 hc4
        conv => arg 5; rw [hy0]
        clear hy0
        by_cases rA : 0 ≤ X.recs[k].worn ∧ X.recs[k].worn ≤ 99999
        case neg =>
          have RA := Lib.hid rA
          have RCA := Lib.hid (wOut (W := W2) rA)
          clear rA
          go_wp2_with (first | (go_at_call 70; (with_reducible first | refine (RCA.out _).mono ?_); rintro e w' ⟨rfl, x3, rfl⟩))
          go_ret
          exact RetE.fin (hEW.trans x3.h) (chkW_30 (fun h => RA.out (h.rc k hlt).worn) rfl)
        have RA := Lib.hid rA
        have RCA := Lib.hid (wIn (W := W2) rA)
        clear rA
        by_cases rB : 0 ≤ X.recs[k].limit ∧ X.recs[k].limit ≤ 99999
        case neg =>
          have RB := Lib.hid rB
          have RCB := Lib.hid (wOut (W := W2) rB)
          clear rB
          go_wp2_with (first | (go_at_call 70; (with_reducible first | refine (RCA.out _).mono ?_ | refine (RCB.out _).mono ?_); rintro e w' ⟨rfl, x3, rfl⟩))
          go_ret
          exact RetE.fin (hEW.trans x3.h) (chkW_30 (fun h => RB.out (h.rc k hlt).limit) rfl)
        have RB := Lib.hid rB
        have RCB := Lib.hid (wIn (W := W2) rB)
        clear rB
        by_cases rC : 0 ≤ X.recs[k].price ∧ X.recs[k].price ≤ 999
        case neg =>
          have RC := Lib.hid rC
          have RCC := Lib.hid (wOut (W := W2) rC)
          clear rC
          go_wp2_with (first | (go_at_call 70; (with_reducible first | refine (RCA.out _).mono ?_ | refine (RCB.out _).mono ?_ | refine (RCC.out _).mono ?_); rintro e w' ⟨rfl, x3, rfl⟩))
          go_ret
          exact RetE.fin (hEW.trans x3.h) (chkW_30 (fun h => RC.out (h.rc k hlt).price) rfl)
        have RC := Lib.hid rC
        have RCC := Lib.hid (wIn (W := W2) rC)
        clear rC
        by_cases rD : (X.recs[k].plays.length : Int) = X.weeks
        case neg =>
          have RD := Lib.hid rD
          have rD' : ((X.recs[k].plays.length : Int) != X.weeks) = true := by simpa using rD
          clear rD
          go_wp2_with (first | (go_at_call 70; (with_reducible first | refine (RCA.out _).mono ?_ | refine (RCB.out _).mono ?_ | refine (RCC.out _).mono ?_); rintro e w' ⟨rfl, x3, rfl⟩))
          go_ret
          exact RetE.fin (hEW.trans x3.h) (chkW_30 (fun h => RD.out (h.rc k hlt).len) rfl)
        have RD := Lib.hid rD
        have rD' : ((X.recs[k].plays.length : Int) != X.weeks) = false := by simpa using rD
        clear rD
        by_cases rE : ∀ n ∈ X.recs[k].plays, PlayOK n
        case neg =>
          have RE := Lib.hid rE
          have HEV := Lib.hid (fun y : ExtW W2 => ExtW.call (RetE.bf rE (everyPlays03 q' X.recs[k].plays c' y.w (hM.plays k hlt) (hq.ext (hE2.trans y.h)))))
          clear rE
          go_wp2_with (first | (go_at_call 70; (with_reducible first | refine (RCA.out _).mono ?_ | refine (RCB.out _).mono ?_ | refine (RCC.out _).mono ?_); rintro e w' ⟨rfl, x3, rfl⟩) | (go_at_call 72; refine (HEV.out _).mono ?_; rintro e w' ⟨rfl, x3, rfl⟩))
          go_ret
          exact RetE.fin (hEW.trans x3.h) (chkW_30 (fun h => RE.out (fun n hn => by obtain ⟨i, hi, rfl⟩ := List.getElem_of_mem hn; exact (h.rc k hlt).play i hi)) rfl)
        have RE := Lib.hid rE
        have HEV := Lib.hid (fun y : ExtW W2 => ExtW.call (RetE.bt rE (everyPlays03 q' X.recs[k].plays c' y.w (hM.plays k hlt) (hq.ext (hE2.trans y.h)))))
        clear rE
        go_wp2_with (first | (go_at_call 70; (with_reducible first | refine (RCA.out _).mono ?_ | refine (RCB.out _).mono ?_ | refine (RCC.out _).mono ?_); rintro e w' ⟨rfl, x3, rfl⟩) | (go_at_call 72; refine (HEV.out _).mono ?_; rintro e w' ⟨rfl, x3, rfl⟩))
        go_roundw
        case rel => exact ⟨k + 1, by omega, by go_num, fun j h hj => by
            by_cases e : j < k
            · exact HR.out j h e
            · obtain rfl : j = k := by omega
              exact ⟨RA.out, RB.out, RC.out, RD.out, fun i hi => RE.out _ (List.getElem_mem hi)⟩, ⟨⟨x3.w, (x.h.trans hE2).trans x3.h⟩, rfl⟩⟩
        case measure => simp [intOf]; omega
      · go_wp2
        go_ret
        refine RetE.fin (hE.trans x.h) ?_
        rw [chkW_t ⟨HA.out, HB.out, HC.out, HD.out, HF.out, by omega, HRG.out.1, HRG.out.2, fun j h => HR.out j h (by omega)⟩]
        rfl
end Go.Proofs.Ytppncdbhebgcaaa.We
namespace Go.Proofs.Ytppncdbhebgcaaa.We
open Go.RowKit

def WeekOK (n : Nat) (x : Wk) : Prop := Rises x.recs 0 ((n : Int) - 1) ∧ 0 ≤ x.needle ∧ x.needle ≤ 1

set_option maxHeartbeats 800000 in
theorem isWeek03 (u v : Value) (X : Wr) (x : Wk) (w : World) (hu : WrV w u X) (hv : WkV w v x) (hX : X.recs.length ≤ 100000) (hx : x.recs.length ≤ 100000) :
    Calls Try.prog 51 #[u, v] w (RetE (.bool (bP (WeekOK X.recs.length x))) w) := by
  obtain ⟨p, c, q, d, rfl, h1, h2⟩ := hu
  obtain ⟨s, e, rfl, h3⟩ := hv
  go_enter Try.func51, Try.ntmps51
  go_upto_region 1 with (fail)
  obtain ⟨W, hW⟩ : ∃ W, W = (w.alloc (.cells #[.int .i64 X.weeks, .int .i64 X.price, .int .i64 X.age, .int .i64 X.step, .slice p X.rough.length c, .slice q X.recs.length d] 94)).alloc (.cells #[.int .i64 x.needle, .slice s x.recs.length e] 64) := ⟨_, rfl⟩
  have hn1 := heap_new1 w (.cells #[.int .i64 X.weeks, .int .i64 X.price, .int .i64 X.age, .int .i64 X.step, .slice p X.rough.length c, .slice q X.recs.length d] 94) (.cells #[.int .i64 x.needle, .slice s x.recs.length e] 64)
  have hn2 := heap_new2 w (.cells #[.int .i64 X.weeks, .int .i64 X.price, .int .i64 X.age, .int .i64 X.step, .slice p X.rough.length c, .slice q X.recs.length d] 94) (.cells #[.int .i64 x.needle, .slice s x.recs.length e] 64)
  have hE : Ext w W := by rw [hW]; exact Ext.alloc (Ext.alloc (Ext.refl w) _) _
  rw [← hW] at hn1 hn2 ⊢
  have q5 := ExtW.cell (v := .slice q X.recs.length d) (cell_of_heap hn1 5)
  have n0 := ExtW.cell (v := .int .i64 x.needle) (cell_of_heap hn2 0)
  have n1 := ExtW.cell (v := .slice s x.recs.length e) (cell_of_heap hn2 1)
  have k3 := h3.ext hE
  obtain ⟨x0, hx0⟩ := ExtW.of (Ext.refl W)
  clear hW hn1 hn2 h1 h2 h3
  conv => arg 5; rw [hx0]
  clear hx0
  go_wp2
  go_loopw [10] (fun i wr => ∃ k : Nat, k ≤ x.recs.length ∧ i = .int .i64 k ∧ Rises (x.recs.take k) 0 ((X.recs.length : Int) - 1) ∧ ∃ x : ExtW W, wr = x.w) (fun i _ => x.recs.length - (intOf i).toNat)
  case atStart => exact ⟨0, Nat.zero_le _, rfl, Rises.nil _ _, x0, rfl⟩
  case round =>
    clear x0
    obtain ⟨k, hk, rfl, hr, y, rfl⟩ := hrel
    have HR := Lib.hid hr
    clear hr
    by_cases hlt : k < x.recs.length
    · obtain ⟨b, o, rfl, hc⟩ := k3.at k hlt
      have rc := ExtW.cell hc
      clear hc
      have hx1 : IntKind.i64.wrap ((X.recs.length : Int) - 1) = (X.recs.length : Int) - 1 := by rw [IntKind.wrap_i64]; omega
      by_cases hw : 0 ≤ x.recs[k] ∧ x.recs[k] ≤ (X.recs.length : Int) - 1
      · have HW := Lib.hid hw
        have HWC := Lib.hid (fun y : ExtW W => ExtW.call (RetQ.e (RetQ.bt hw (within03 x.recs[k] 0 ((X.recs.length : Int) - 1) y.w))))
        clear hw
        by_cases hk0 : 0 < k
        · obtain ⟨b', o', he, hc'⟩ := k3.at (k - 1) (by omega)
          obtain ⟨rfl, rfl⟩ : b = b' ∧ o = o' := by simpa using he
          clear he
          have rc' := ExtW.cell hc'
          clear hc'
          have hk0' : decide ((0 : Int) < k) = true := by simp; omega
          have hx : IntKind.i64.wrap ((k : Int) - 1) = (k : Int) - 1 := by rw [IntKind.wrap_i64]; omega
          have hx2 : ((k : Int) - 1).toNat = k - 1 := by omega
          have hx3 : 0 ≤ (k : Int) - 1 := by omega
          by_cases hle : x.recs[k] ≤ x.recs[k-1]
          · have HL := Lib.hid hle
            have hle' : decide (x.recs[k] ≤ x.recs[k-1]) = true := by simpa using hle
            clear hle
            go_wp2_with (go_at_call 70; refine (HWC.out _).mono ?_; rintro e w' ⟨rfl, y2, rfl⟩)
            go_ret
            refine RetE.ff (hE.trans y2.h) ?_
            intro hR
            have := hR.1.2 (k-1) (by omega)
            simp only [show k - 1 + 1 = k from by omega] at this
            have := HL.out
            omega
          · have HL := Lib.hid hle
            have hle' : decide (x.recs[k] ≤ x.recs[k-1]) = false := by simpa using hle
            clear hle
            go_wp2_with (go_at_call 70; refine (HWC.out _).mono ?_; rintro e w' ⟨rfl, y2, rfl⟩)
            go_roundw
            case rel => exact ⟨k + 1, by omega, by go_num, Rises.snoc hlt HR.out HW.out.1 HW.out.2 (by intro j hj; obtain rfl : j = k - 1 := (by omega); have := HL.out; omega), y2, rfl⟩
            case measure => simp [intOf]; omega
        · obtain rfl : k = 0 := by omega
          simp only [Nat.add_zero] at rc
          clear hk0
          go_wp2_with (go_at_call 70; refine (HWC.out _).mono ?_; rintro e w' ⟨rfl, y2, rfl⟩)
          go_roundw
          case rel => exact ⟨0 + 1, by omega, by go_num, Rises.snoc hlt HR.out HW.out.1 HW.out.2 (by intro j hj; omega), y2, rfl⟩
          case measure => simp [intOf]; omega
      · have HW := Lib.hid hw
        have HWC := Lib.hid (fun y : ExtW W => ExtW.call (RetQ.e (RetQ.bf hw (within03 x.recs[k] 0 ((X.recs.length : Int) - 1) y.w))))
        clear hw
        go_wp2_with (go_at_call 70; refine (HWC.out _).mono ?_; rintro e w' ⟨rfl, y2, rfl⟩)
        go_ret
        exact RetE.ff (hE.trans y2.h) (fun hR => HW.out (hR.1.1 k hlt))
    · have HWC := Lib.hid (fun y : ExtW W => ExtW.call (RetQ.e (within03 x.needle 0 1 y.w)))
      go_wp2_with (go_at_call 70; refine (HWC.out _).mono ?_; rintro e w' ⟨rfl, y2, rfl⟩)
      go_ret
      refine RetE.of (hE.trans y2.h) ?_
      rw [bP_iff]
      have := HR.out
      rw [List.take_of_length_le (by omega)] at this
      exact ⟨fun h => ⟨this, h⟩, fun h => h.2⟩

set_option maxHeartbeats 800000 in
theorem notWeek03 (u v : Value) (X : Wr) (x : Wk) (B : Nat) (w : World) (hu : WrV w u X) (hv : WkV w v x) (hX : X.recs.length ≤ 100000) (hx : x.recs.length ≤ 100000)
    (hB : w.cell? ⟨B, 0, none⟩ = some (.func (.func 51) #[u] #[])) :
    Calls Try.prog 74 #[v, .pointer (some ⟨B, 0, none⟩)] w (RetE (.bool (bP (¬WeekOK X.recs.length x))) w) := by
  have hcall := Try.call51
  obtain ⟨s, e, rfl, h3⟩ := id hv
  go_enter Try.func74, Try.ntmps74
  go_upto_region 1 with (fail)
  have hn := heap_new w (.cells #[.int .i64 x.needle, .slice s x.recs.length e] 64)
  obtain ⟨W, hW⟩ : ∃ W, W = w.alloc (.cells #[.int .i64 x.needle, .slice s x.recs.length e] 64) := ⟨_, rfl⟩
  have hE : Ext w W := by rw [hW]; exact Ext.alloc (Ext.refl w) _
  rw [← hW] at hn ⊢
  have n0 := cell_of_heap hn 0
  have n1 := cell_of_heap hn 1
  simp at n0 n1
  have hB1 := hE.cell hB
  have hC := isWeek03 u (.agg #[.int .i64 x.needle, .slice s x.recs.length e]) X x W (WrV.mono _ _ _ _ hE hu) ⟨s, e, rfl, h3.ext hE⟩ hX hx
  clear hW hn hB hv h3 hu
  by_cases h : WeekOK X.recs.length x
  · have HC := Lib.hid (RetE.bt h hC)
    have H := Lib.hid h
    clear h hC
    go_wp2_with fail
    refine HC.out.mono ?_
    rintro e W2 ⟨rfl, hE2⟩
    go_wp2
    go_ret
    exact RetE.ff (hE.trans hE2) (fun h => h H.out)
  · have HC := Lib.hid (RetE.bf h hC)
    have H := Lib.hid h
    clear h hC
    go_wp2_with fail
    refine HC.out.mono ?_
    rintro e W2 ⟨rfl, hE2⟩
    go_wp2
    go_ret
    exact RetE.tt (hE.trans hE2) H.out

set_option maxHeartbeats 800000 in
theorem IndexFuncWk (p : Option Addr) (l : List Wk) (c g : Nat) (cap : Array Value) (w : World) (q : Wk → Prop) (hl : l.length ≤ 100000) (h : WksAt w p l) (ha : Asks WkV g #[] cap w l q) :
    Calls Try.prog 93 #[.slice p l.length c, .func (.func g) #[] cap] w (IdxPost (∃ x ∈ l, q x) w) := by
  obtain ⟨hcall, hf⟩ := ha
  have HF := Lib.hid hf
  clear hf
  go_enter Try.func93, Try.ntmps93
  go_wp2
  go_loopw [8] (fun i wr => ∃ k : Nat, k ≤ l.length ∧ i = .int .i64 k ∧ (∀ x ∈ l.take k, ¬q x) ∧ Ext w wr) (fun i _ => l.length - (intOf i).toNat)
  case atStart => exact ⟨0, by omega, rfl, by simp, Ext.refl _⟩
  case round =>
    obtain ⟨k, hk, rfl, hr, hE⟩ := hrel
    have HR := Lib.hid hr
    clear hr
    by_cases hlt : k < l.length
    · obtain ⟨b, o, q', c', rfl, hc, hd, hq'⟩ := (h.ext hE) k hlt
      have hC := HF.out wr (.agg #[.int .i64 l[k].needle, .slice q' (l[k]).recs.length c']) l[k] hE (List.getElem_mem hlt) ⟨q', c', rfl, hq'⟩
      simp only [List.append_toArray, List.nil_append] at hC
      by_cases hq : q l[k]
      · have HC := Lib.hid (RetE.bt hq hC)
        have HQ := Lib.hid hq
        clear hC hq
        go_wp2_with fail
        refine HC.out.mono ?_
        rintro e W2 ⟨rfl, hE2⟩
        go_wp2
        go_ret
        exact ⟨k, rfl, ⟨fun _ => ⟨_, List.getElem_mem hlt, HQ.out⟩, fun _ => by omega⟩, hE.trans hE2⟩
      · have HC := Lib.hid (RetE.bf hq hC)
        have HQ := Lib.hid hq
        clear hC hq
        go_wp2_with fail
        refine HC.out.mono ?_
        rintro e W2 ⟨rfl, hE2⟩
        go_wp2
        go_roundw
        case rel => exact ⟨k + 1, by omega, by go_num, by
          rw [List.take_succ_eq_append_getElem hlt]
          intro x hx
          rcases List.mem_append.1 hx with h1 | h1
          · exact HR.out x h1
          · rw [List.mem_singleton.1 h1]; exact HQ.out, hE.trans hE2⟩
        case measure => simp [intOf]; omega
    · go_wp2
      go_ret
      exact ⟨-1, rfl, ⟨fun h => absurd h (by decide), fun ⟨x, hx, hqx⟩ => absurd hqx (HR.out x (by rwa [List.take_of_length_le (by omega)]))⟩, hE⟩

set_option maxHeartbeats 400000 in
theorem ContainsFuncWk (p : Option Addr) (l : List Wk) (c g : Nat) (cap : Array Value) (w : World) (q : Wk → Prop) (hl : l.length ≤ 100000) (h : WksAt w p l) (ha : Asks WkV g #[] cap w l q) :
    Calls Try.prog 73 #[.slice p l.length c, .func (.func g) #[] cap] w (RetE (.bool (bP (∃ x ∈ l, q x))) w) := by
  have HC := Lib.hid (IndexFuncWk p l c g cap w q hl h ha)
  clear ha
  go_enter Try.func73, Try.ntmps73
  go_wp2_with fail
  refine HC.out.mono ?_
  rintro e W2 ⟨n, rfl, hn, hE2⟩
  have HN := Lib.hid hn
  clear hn
  go_wp2
  go_ret
  exact RetE.of hE2 (by rw [← HN.out]; simp)

set_option maxHeartbeats 400000 in
theorem everyWk03 (p : Option Addr) (l : List Wk) (c : Nat) (u : Value) (X : Wr) (w : World) (hl : l.length ≤ 100000) (hr : ∀ x ∈ l, x.recs.length ≤ 100000) (hX : X.recs.length ≤ 100000) (hu : WrV w u X) (h : WksAt w p l) :
    Calls Try.prog 50 #[.slice p l.length c, .func (.func 51) #[u] #[]] w (RetE (.bool (bP (∀ x ∈ l, WeekOK X.recs.length x))) w) := by
  go_enter Try.func50, Try.ntmps50
  go_upto_region 1 with (fail)
  have hn := heap_new w (.cells #[.func (.func 51) #[u] #[]] 118)
  obtain ⟨W, hW⟩ : ∃ W, W = w.alloc (.cells #[.func (.func 51) #[u] #[]] 118) := ⟨_, rfl⟩
  have hE : Ext w W := by rw [hW]; exact Ext.alloc (Ext.refl w) _
  rw [← hW] at hn ⊢
  have hA := ContainsFuncWk p l c 74 #[.pointer (some ⟨w.heap.size, 0, none⟩)] W (fun x => ¬WeekOK X.recs.length x) hl (h.ext hE) ⟨Try.call74, fun w' v x hw' hx hv =>
    notWeek03 u v X x w.heap.size w' (WrV.mono _ _ _ _ (hE.trans hw') hu) hv hX (hr x hx) (hw'.cell (cell_of_heap hn 0))⟩
  have HC := Lib.hid hA
  clear hW hn hA
  go_wp2_with fail
  refine HC.out.mono ?_
  rintro e W2 ⟨rfl, hE2⟩
  go_wp2
  go_ret
  refine RetE.of (hE.trans hE2) ?_
  by_cases hq : ∃ x ∈ l, ¬WeekOK X.recs.length x
  · rw [bP_t hq]
    obtain ⟨x, hx, hn⟩ := hq
    exact ⟨fun h => by simp at h, fun h => absurd (h x hx) hn⟩
  · rw [bP_f hq]
    exact ⟨fun _ n hn => Classical.byContradiction fun h => hq ⟨n, hn, h⟩, fun _ => by simp⟩
end Go.Proofs.Ytppncdbhebgcaaa.We
namespace Go.Proofs.Ytppncdbhebgcaaa.We
open Go.RowKit

def zeroBx : Value := .agg #[.int .i64 0, .int .i64 0, .int .i64 0, .int .i64 0, .slice none 0 0, .slice none 0 0]
def PlanOK (X : Wr) (l : List Wk) : Prop := (l.length : Int) = X.weeks ∧ ∀ x ∈ l, WeekOK X.recs.length x
noncomputable def beginV (v : Value) (X : Wr) (l : List Wk) : Value :=
  if bP (ValidW X) = true then (if bP (PlanOK X l) = true then .tuple #[v, .int .i64 0] else .tuple #[zeroBx, .int .i64 1]) else .tuple #[zeroBx, .int .i64 30]
theorem beginV_ok {v : Value} {X : Wr} {l : List Wk} (h : ValidW X) (k : PlanOK X l) : beginV v X l = .tuple #[v, .int .i64 0] := by rw [beginV, if_pos (bP_t h), if_pos (bP_t k)]
theorem beginV_arg {v : Value} {X : Wr} {l : List Wk} (h : ValidW X) (k : ¬PlanOK X l) : beginV v X l = .tuple #[zeroBx, .int .i64 1] := by rw [beginV, if_pos (bP_t h), if_neg (by rw [bP_f k]; simp)]
theorem beginV_bad {v : Value} {X : Wr} {l : List Wk} (h : ¬ValidW X) : beginV v X l = .tuple #[zeroBx, .int .i64 30] := by rw [beginV, if_neg (by rw [bP_f h]; simp)]

set_option maxHeartbeats 1600000 in
theorem begin03 (v : Value) (X : Wr) (p : Option Addr) (l : List Wk) (c : Nat) (w : World) (hv : WrV w v X) (hM : ModestW X) (hl : l.length ≤ 100000) (hr : ∀ x ∈ l, x.recs.length ≤ 100000) (h : WksAt w p l) :
    Calls Try.prog 35 #[v, .slice p l.length c] w (RetE (beginV v X l) w) := by
  have hC := fun w' (h : Ext w w') => Check03 v X w' (WrV.mono _ _ _ _ h hv) hM
  have hEv := fun w' (hw : Ext w w') => everyWk03 p l c v X w' hl hr hM.recs (WrV.mono _ _ _ _ hw hv) (h.ext hw)
  have HM := Lib.hid hM
  obtain ⟨p1, c1, q1, d1, rfl, h1, h2⟩ := id hv
  have HC := Lib.hid hC
  have HEV := Lib.hid hEv
  have m2 := hM.recs
  clear hC hEv hv h1 h2 h hM hr
  go_enter Try.func35, Try.ntmps35
  go_upto_region 1 with (fail)
  have hn1 := heap_new1 w (.cells #[.int .i64 X.weeks, .int .i64 X.price, .int .i64 X.age, .int .i64 X.step, .slice p1 X.rough.length c1, .slice q1 X.recs.length d1] 57) (.cells #[.int .i64 0, .int .i64 0, .int .i64 0, .int .i64 0, .slice none 0 0, .slice none 0 0] 94)
  have hn2 := heap_new2 w (.cells #[.int .i64 X.weeks, .int .i64 X.price, .int .i64 X.age, .int .i64 X.step, .slice p1 X.rough.length c1, .slice q1 X.recs.length d1] 57) (.cells #[.int .i64 0, .int .i64 0, .int .i64 0, .int .i64 0, .slice none 0 0, .slice none 0 0] 94)
  obtain ⟨W, hW⟩ : ∃ W, W = (w.alloc (.cells #[.int .i64 X.weeks, .int .i64 X.price, .int .i64 X.age, .int .i64 X.step, .slice p1 X.rough.length c1, .slice q1 X.recs.length d1] 57)).alloc (.cells #[.int .i64 0, .int .i64 0, .int .i64 0, .int .i64 0, .slice none 0 0, .slice none 0 0] 94) := ⟨_, rfl⟩
  have hE : Ext w W := by rw [hW]; exact Ext.alloc (Ext.alloc (Ext.refl w) _) _
  have hs : W.heap.size = w.heap.size + 2 := by rw [hW]; simp
  rw [← hW] at hn1 hn2 ⊢
  have q0 := ExtW.cell (v := .int .i64 X.weeks) (cell_of_heap hn1 0)
  have q1' := ExtW.cell (v := .int .i64 X.price) (cell_of_heap hn1 1)
  have q2 := ExtW.cell (v := .int .i64 X.age) (cell_of_heap hn1 2)
  have q3 := ExtW.cell (v := .int .i64 X.step) (cell_of_heap hn1 3)
  have q4 := ExtW.cell (v := .slice p1 X.rough.length c1) (cell_of_heap hn1 4)
  have q5 := ExtW.cell (v := .slice q1 X.recs.length d1) (cell_of_heap hn1 5)
  have hf : ∀ (x : ExtW W) k, x.w.frozen? ⟨w.heap.size + 1, k, none⟩ = false := fun x k => cell_frozen ((Below.block x.h _ (by omega)).trans hn2) k
  have hz : ∀ (x : ExtW W) (k : Nat) (u : Value), (#[.int .i64 0, .int .i64 0, .int .i64 0, .int .i64 0, .slice none 0 0, .slice none 0 0] : Array Value)[k]? = some u → x.w.cell? ⟨w.heap.size + 1, k, none⟩ = some u := fun x k u hu => (cell_of_heap ((Below.block x.h _ (by omega)).trans hn2) k).trans hu
  have z0 := fun x => hz x 0 _ rfl
  have z1 := fun x => hz x 1 _ rfl
  have z2 := fun x => hz x 2 _ rfl
  have z3 := fun x => hz x 3 _ rfl
  have z4 := fun x => hz x 4 _ rfl
  have z5 := fun x => hz x 5 _ rfl
  have HF := Lib.hid hf
  have HZ := Lib.hid (fun x : ExtW W => (Below.block x.h _ (by omega)).trans hn2)
  have hws : w.heap.size ≤ w.heap.size + 1 := by omega
  obtain ⟨x0, hx0⟩ := ExtW.of (Ext.refl W)
  clear hW hn1 hn2 hz hf
  conv => arg 5; rw [hx0]
  clear hx0
  by_cases hV : ValidW X
  · have HV := Lib.hid hV
    have HCC := Lib.hid (fun x : ExtW W => ExtW.call ((HC.out x.w (hE.trans x.h)).mono (R' := RetE (.int .i64 0) x.w) (fun e w'' hh => by rw [← chkW_t hV]; exact hh)))
    clear hV HC
    go_upto_region 4 with (go_at_call 49; refine (HCC.out _).mono ?_; rintro e w' ⟨rfl, x1, rfl⟩)
    go_upto_region 5 with (fail)
    have hn1 := heap_new x1.w (.cells #[.int .i64 X.weeks, .int .i64 X.price, .int .i64 X.age, .int .i64 X.step, .slice p1 X.rough.length c1, .slice q1 X.recs.length d1] 94)
    obtain ⟨W2, hW2⟩ : ∃ W2, W2 = x1.w.alloc (.cells #[.int .i64 X.weeks, .int .i64 X.price, .int .i64 X.age, .int .i64 X.step, .slice p1 X.rough.length c1, .slice q1 X.recs.length d1] 94) := ⟨_, rfl⟩
    have hE2 : Ext W W2 := by rw [hW2]; exact Ext.alloc x1.h _
    rw [← hW2] at hn1 ⊢
    have r0 := fun x : ExtW W2 => q0 ⟨x.w, hE2.trans x.h⟩
    have b0 := ExtW.cell (v := .int .i64 X.weeks) (cell_of_heap hn1 0)
    have b1 := ExtW.cell (v := .int .i64 X.price) (cell_of_heap hn1 1)
    have b2 := ExtW.cell (v := .int .i64 X.age) (cell_of_heap hn1 2)
    have b3 := ExtW.cell (v := .int .i64 X.step) (cell_of_heap hn1 3)
    have b4 := ExtW.cell (v := .slice p1 X.rough.length c1) (cell_of_heap hn1 4)
    have b5 := ExtW.cell (v := .slice q1 X.recs.length d1) (cell_of_heap hn1 5)
    have hf := fun (x : ExtW W2) k => HF.out ⟨x.w, hE2.trans x.h⟩ k
    have f0 := fun x => hf x 0
    have f1 := fun x => hf x 1
    have f2 := fun x => hf x 2
    have f3 := fun x => hf x 3
    have f4 := fun x => hf x 4
    have f5 := fun x => hf x 5
    have g0 := fun x : ExtW W2 => z0 ⟨x.w, hE2.trans x.h⟩
    have g1 := fun x : ExtW W2 => z1 ⟨x.w, hE2.trans x.h⟩
    have g2 := fun x : ExtW W2 => z2 ⟨x.w, hE2.trans x.h⟩
    have g3 := fun x : ExtW W2 => z3 ⟨x.w, hE2.trans x.h⟩
    have g4 := fun x : ExtW W2 => z4 ⟨x.w, hE2.trans x.h⟩
    have g5 := fun x : ExtW W2 => z5 ⟨x.w, hE2.trans x.h⟩
    have hEW := hE.trans hE2
    have HCE := Lib.hid (fun y : ExtW W2 => ExtW.call (HEV.out y.w (hEW.trans y.h)))
    obtain ⟨y0, hy0⟩ := ExtW.of (Ext.refl W2)
    clear hW2 hn1 q0 q1' q2 q3 q4 q5 z0 z1 z2 z3 z4 z5 hf HF HEV
    conv => arg 5; rw [hy0]
    clear hy0
    by_cases hlen : (l.length : Int) = X.weeks
    · have hl' : ((l.length : Int) != X.weeks) = false := by simpa using hlen
      have HL := Lib.hid hlen
      clear hlen
      by_cases hall : ∀ x ∈ l, WeekOK X.recs.length x
      · have HP : Hid (PlanOK X l) := Lib.hid ⟨HL.out, hall⟩
        have HCE2 := Lib.hid (fun y => HCE.out y)
        rw [bP_t hall] at HCE2
        clear HCE hall
        go_wp2_with (go_at_call 50; refine (HCE2.out _).mono ?_; rintro e w' ⟨rfl, y1, rfl⟩)
        generalize hW6 : World.setCell _ _ _ = W6
        have z6 : W6.heap[w.heap.size + 1]? = some (.cells #[.int .i64 X.weeks, .int .i64 X.price, .int .i64 X.age, .int .i64 X.step, .slice p1 X.rough.length c1, .slice q1 X.recs.length d1] 94 (0, 0)) := by rw [← hW6]; exact heap_set6 (HZ.out ⟨y1.w, hE2.trans y1.h⟩)
        have hE6 : Ext w W6 := by rw [← hW6]; exact Ext.set (Ext.set (Ext.set (Ext.set (Ext.set (Ext.set (hEW.trans y1.h) hws) hws) hws) hws) hws) hws
        refine bodyPost_ret (v := .tuple #[.agg #[.int .i64 X.weeks, .int .i64 X.price, .int .i64 X.age, .int .i64 X.step, .slice p1 X.rough.length c1, .slice q1 X.recs.length d1], .int .i64 0]) ?_ rfl (RetE.fin hE6 (beginV_ok HV.out HP.out).symm)
        have a0 := cell_of_heap z6 0
        have a1 := cell_of_heap z6 1
        have a2 := cell_of_heap z6 2
        have a3 := cell_of_heap z6 3
        have a4 := cell_of_heap z6 4
        have a5 := cell_of_heap z6 5
        simp at a0 a1 a2 a3 a4 a5
        simp [results, Try.results35, go_sem, a0, a1, a2, a3, a4, a5]
      · have HP : Hid (¬PlanOK X l) := Lib.hid (fun h => hall h.2)
        have HCE2 := Lib.hid (fun y => HCE.out y)
        rw [bP_f hall] at HCE2
        clear HCE hall
        go_wp2_with (go_at_call 50; refine (HCE2.out _).mono ?_; rintro e w' ⟨rfl, y1, rfl⟩)
        generalize hW6 : World.setCell _ _ _ = W6
        have z6 : W6.heap[w.heap.size + 1]? = some (.cells #[.int .i64 0, .int .i64 0, .int .i64 0, .int .i64 0, .slice none 0 0, .slice none 0 0] 94 (0, 0)) := by rw [← hW6]; exact heap_set6 (HZ.out ⟨y1.w, hE2.trans y1.h⟩)
        have hE6 : Ext w W6 := by rw [← hW6]; exact Ext.set (Ext.set (Ext.set (Ext.set (Ext.set (Ext.set (hEW.trans y1.h) hws) hws) hws) hws) hws) hws
        refine bodyPost_ret (v := .tuple #[zeroBx, .int .i64 1]) ?_ rfl (RetE.fin hE6 (beginV_arg HV.out HP.out).symm)
        have a0 := cell_of_heap z6 0
        have a1 := cell_of_heap z6 1
        have a2 := cell_of_heap z6 2
        have a3 := cell_of_heap z6 3
        have a4 := cell_of_heap z6 4
        have a5 := cell_of_heap z6 5
        simp at a0 a1 a2 a3 a4 a5
        simp [results, Try.results35, go_sem, a0, a1, a2, a3, a4, a5, zeroBx]
    · have hl' : ((l.length : Int) != X.weeks) = true := by simpa using hlen
      have HP : Hid (¬PlanOK X l) := Lib.hid (fun h => hlen h.1)
      clear hlen
      go_wp2
      generalize hW6 : World.setCell _ _ _ = W6
      have z6 : W6.heap[w.heap.size + 1]? = some (.cells #[.int .i64 0, .int .i64 0, .int .i64 0, .int .i64 0, .slice none 0 0, .slice none 0 0] 94 (0, 0)) := by rw [← hW6]; exact heap_set6 (HZ.out ⟨y0.w, hE2.trans y0.h⟩)
      have hE6 : Ext w W6 := by rw [← hW6]; exact Ext.set (Ext.set (Ext.set (Ext.set (Ext.set (Ext.set (hEW.trans y0.h) hws) hws) hws) hws) hws) hws
      refine bodyPost_ret (v := .tuple #[zeroBx, .int .i64 1]) ?_ rfl (RetE.fin hE6 (beginV_arg HV.out HP.out).symm)
      have a0 := cell_of_heap z6 0
      have a1 := cell_of_heap z6 1
      have a2 := cell_of_heap z6 2
      have a3 := cell_of_heap z6 3
      have a4 := cell_of_heap z6 4
      have a5 := cell_of_heap z6 5
      simp at a0 a1 a2 a3 a4 a5
      simp [results, Try.results35, go_sem, a0, a1, a2, a3, a4, a5, zeroBx]
  · have HCC := Lib.hid (fun x : ExtW W => ExtW.call ((HC.out x.w (hE.trans x.h)).mono (R' := RetE (.int .i64 30) x.w) (fun e w'' hh => by rw [← chkW_f hV]; exact hh)))
    have HNV := Lib.hid hV
    have f0 := fun x => HF.out x 0
    have f1 := fun x => HF.out x 1
    have f2 := fun x => HF.out x 2
    have f3 := fun x => HF.out x 3
    have f4 := fun x => HF.out x 4
    have f5 := fun x => HF.out x 5
    clear hV HC
    go_wp2_with (go_at_call 49; refine (HCC.out _).mono ?_; rintro e w' ⟨rfl, x1, rfl⟩)
    generalize hW6 : World.setCell _ _ _ = W6
    have z6 : W6.heap[w.heap.size + 1]? = some (.cells #[.int .i64 0, .int .i64 0, .int .i64 0, .int .i64 0, .slice none 0 0, .slice none 0 0] 94 (0, 0)) := by rw [← hW6]; exact heap_set6 (HZ.out x1)
    have hE6 : Ext w W6 := by rw [← hW6]; exact Ext.set (Ext.set (Ext.set (Ext.set (Ext.set (Ext.set (hE.trans x1.h) hws) hws) hws) hws) hws) hws
    refine bodyPost_ret (v := .tuple #[zeroBx, .int .i64 30]) ?_ rfl (RetE.fin hE6 (beginV_bad HNV.out).symm)
    have a0 := cell_of_heap z6 0
    have a1 := cell_of_heap z6 1
    have a2 := cell_of_heap z6 2
    have a3 := cell_of_heap z6 3
    have a4 := cell_of_heap z6 4
    have a5 := cell_of_heap z6 5
    simp at a0 a1 a2 a3 a4 a5
    simp [results, Try.results35, go_sem, a0, a1, a2, a3, a4, a5, zeroBx]
end Go.Proofs.Ytppncdbhebgcaaa.We
namespace Go.Proofs.Ytppncdbhebgcaaa.We
open Go.RowKit

/-- by how much a play wears a record, if the needle has done so many -/
def roughI (X : Wr) (a : Int) : Nat := (min (a / X.step) ((X.rough.length : Int) - 1)).toNat
def roughW (X : Wr) (a : Int) : Int := X.rough.getD (roughI X a) 0
/-- by how much n plays wear a record -/
def grindW (X : Wr) (a : Int) : Nat → Int
  | 0 => 0
  | n + 1 => grindW X a n + roughW X (a + n)
def noRec : Rec := ⟨0, 0, 0, []⟩
def recW (X : Wr) (i : Nat) : Rec := X.recs.getD i noRec
/-- how often record i is played in a week -/
def playsW (X : Wr) (wk i : Nat) : Int := (recW X i).plays.getD wk 0
def updI (f : Nat → Int) (k : Nat) (s : Int) : Nat → Int := fun j => if j = k then s else f j

structure St where
  worn : Nat → Int
  age : Int
  cost : Int

def startW (X : Wr) : St := ⟨fun i => (recW X i).worn, X.age, 0⟩
def newW (X : Wr) (p : Wk) (s : St) : St := if p.needle = 1 then ⟨s.worn, 0, s.cost + X.price⟩ else s
def repW (X : Wr) (s : St) (n : Int) : St := ⟨updI s.worn n.toNat 0, s.age, s.cost + (recW X n.toNat).price⟩
def playW (X : Wr) (wk : Nat) (s : St) (i : Nat) : St := ⟨updI s.worn i (s.worn i + grindW X s.age (playsW X wk i).toNat), s.age + playsW X wk i, s.cost⟩
def playsTo (X : Wr) (wk : Nat) (s : St) (n : Nat) : St := (List.range n).foldl (playW X wk) s
def weekW (X : Wr) (s : St) (wk : Nat) (p : Wk) : St := playsTo X wk (p.recs.foldl (repW X) (newW X p s)) X.recs.length
def wkAt (l : List Wk) (k : Nat) : Wk := l.getD k ⟨0, []⟩
def runTo (X : Wr) (l : List Wk) : Nat → St
  | 0 => startW X
  | k + 1 => weekW X (runTo X l k) k (wkAt l k)

theorem playsTo_succ (X : Wr) (wk : Nat) (s : St) (n : Nat) : playsTo X wk s (n + 1) = playW X wk (playsTo X wk s n) n := by
  unfold playsTo; rw [List.range_succ, List.foldl_append]; rfl

/-! bounds -/
theorem recW_eq {X : Wr} {i : Nat} (h : i < X.recs.length) : recW X i = X.recs[i] := by simp [recW, List.getD, h]
theorem roughI_lt {X : Wr} (hX : ValidW X) {a : Int} (ha : 0 ≤ a) : roughI X a < X.rough.length := by
  have h1 := hX.rough
  have h2 := hX.step
  have h3 : 0 ≤ a / X.step := Int.ediv_nonneg ha (by omega)
  unfold roughI
  omega
theorem roughW_eq {X : Wr} (hX : ValidW X) {a : Int} (ha : 0 ≤ a) : roughW X a = X.rough[roughI X a]'(roughI_lt hX ha) := by
  simp [roughW, List.getD, roughI_lt hX ha]
theorem roughW_bd {X : Wr} (hX : ValidW X) {a : Int} (ha : 0 ≤ a) : 0 ≤ roughW X a ∧ roughW X a ≤ 99 := by
  rw [roughW_eq hX ha]; exact hX.rg _ _
theorem grindW_bd {X : Wr} (hX : ValidW X) {a : Int} (ha : 0 ≤ a) : ∀ n : Nat, 0 ≤ grindW X a n ∧ grindW X a n ≤ 99 * n
  | 0 => by simp [grindW]
  | n + 1 => by
    have := grindW_bd hX ha n
    have := roughW_bd hX (a := a + n) (by omega)
    simp only [grindW]
    omega
theorem playsW_bd {X : Wr} (hX : ValidW X) (wk i : Nat) : 0 ≤ playsW X wk i ∧ playsW X wk i ≤ 99 := by
  unfold playsW
  by_cases h : i < X.recs.length
  · rw [recW_eq h]
    by_cases hk : wk < X.recs[i].plays.length
    · have := (hX.rc i h).play wk hk
      simpa [List.getD, hk] using this
    · simp [List.getD, List.getElem?_eq_none (by omega : X.recs[i].plays.length ≤ wk)]
  · have : recW X i = noRec := by simp [recW, List.getD, List.getElem?_eq_none (by omega : X.recs.length ≤ i)]
    rw [this]
    simp [noRec]
theorem plays_eq {X : Wr} (hX : ValidW X) {wk i : Nat} (hi : i < X.recs.length) (hk : (wk : Int) < X.weeks) : ∃ h : wk < X.recs[i].plays.length, playsW X wk i = X.recs[i].plays[wk] := by
  have := (hX.rc i hi).len
  have hk' : wk < X.recs[i].plays.length := by omega
  refine ⟨hk', ?_⟩
  unfold playsW
  rw [recW_eq hi]
  simp [List.getD, hk']

/-- a state whose numbers are small -/
structure StOK (A C V : Int) (s : St) : Prop where
  age : 0 ≤ s.age ∧ s.age ≤ A
  cost : 0 ≤ s.cost ∧ s.cost ≤ C
  worn : ∀ i, 0 ≤ s.worn i ∧ s.worn i ≤ V
theorem StOK.mono {A C V A' C' V' : Int} {s : St} (h : StOK A C V s) (h1 : A ≤ A') (h2 : C ≤ C') (h3 : V ≤ V') : StOK A' C' V' s :=
  ⟨⟨h.age.1, by have := h.age.2; omega⟩, ⟨h.cost.1, by have := h.cost.2; omega⟩, fun i => ⟨(h.worn i).1, by have := (h.worn i).2; omega⟩⟩
theorem rec_bd {X : Wr} (hX : ValidW X) (i : Nat) : 0 ≤ (recW X i).price ∧ (recW X i).price ≤ 999 ∧ 0 ≤ (recW X i).worn ∧ (recW X i).worn ≤ 99999 := by
  by_cases h : i < X.recs.length
  · rw [recW_eq h]
    exact ⟨(hX.rc i h).price.1, (hX.rc i h).price.2, (hX.rc i h).worn.1, (hX.rc i h).worn.2⟩
  · have : recW X i = noRec := by simp [recW, List.getD, List.getElem?_eq_none (by omega : X.recs.length ≤ i)]
    rw [this]
    simp [noRec]
theorem start_ok {X : Wr} (hX : ValidW X) : StOK 9999 0 99999 (startW X) := ⟨hX.age, ⟨by simp [startW], by simp [startW]⟩, fun i => (rec_bd hX i).2.2⟩
theorem new_ok {X : Wr} (hX : ValidW X) {A C V : Int} {s : St} (p : Wk) (h : StOK A C V s) : StOK A (C + 999) V (newW X p s) := by
  have hp := hX.price
  have h1 := h.age
  have h2 := h.cost
  unfold newW
  split
  · exact ⟨⟨by simp, by simp only; omega⟩, ⟨by simp only; omega, by simp only; omega⟩, h.worn⟩
  · exact h.mono (by omega) (by omega) (by omega)
theorem rep_ok {X : Wr} (hX : ValidW X) {A C V : Int} {s : St} (n : Int) (h : StOK A C V s) : StOK A (C + 999) V (repW X s n) := by
  have hp := rec_bd hX n.toNat
  have h2 := h.cost
  refine ⟨h.age, ⟨by simp only [repW]; omega, by simp only [repW]; omega⟩, fun i => ?_⟩
  have := h.worn i
  simp only [repW, updI]
  split <;> omega
theorem play_ok {X : Wr} (hX : ValidW X) {A C V : Int} {s : St} (wk i : Nat) (h : StOK A C V s) : StOK (A + 99) C (V + 9801) (playW X wk s i) := by
  have h1 := h.age
  have hp := playsW_bd hX wk i
  have hg := grindW_bd hX h1.1 (playsW X wk i).toNat
  refine ⟨⟨by simp only [playW]; omega, by simp only [playW]; omega⟩, h.cost, fun j => ?_⟩
  have := h.worn j
  have := h.worn i
  simp only [playW, updI]
  split <;> omega
theorem reps_ok {X : Wr} (hX : ValidW X) {A C V : Int} : ∀ (l : List Int) {s : St}, StOK A C V s → StOK A (C + 999 * l.length) V (l.foldl (repW X) s) := by
  intro l
  induction l generalizing C with
  | nil => intro s h; exact h.mono (by omega) (by simp) (by omega)
  | cons n r ih => intro s h; exact (ih (rep_ok hX n h)).mono (by omega) (by simp only [List.length_cons]; omega) (by omega)
theorem playsTo_ok {X : Wr} (hX : ValidW X) {A C V : Int} {s : St} (wk : Nat) (h : StOK A C V s) : ∀ n : Nat, StOK (A + 99 * n) C (V + 9801 * n) (playsTo X wk s n)
  | 0 => h.mono (by omega) (by omega) (by omega)
  | n + 1 => by
    rw [playsTo_succ]
    exact (play_ok hX wk n (playsTo_ok hX wk h n)).mono (by omega) (by omega) (by omega)

theorem wkAt_eq {l : List Wk} {k : Nat} (h : k < l.length) : wkAt l k = l[k] := by simp [wkAt, List.getD, h]
theorem runTo_ok {X : Wr} (hX : ValidW X) {l : List Wk} (hl : PlanOK X l) : ∀ k : Nat, k ≤ l.length → StOK (9999 + 396 * k) (4995 * k) (99999 + 39204 * k) (runTo X l k)
  | 0, _ => (start_ok hX).mono (by omega) (by omega) (by omega)
  | k + 1, h => by
    have h4 := hX.recs
    have hr := (hl.2 _ (List.getElem_mem (by omega : k < l.length))).1.len
    show StOK _ _ _ (weekW X (runTo X l k) k (wkAt l k))
    rw [wkAt_eq (by omega)]
    exact (playsTo_ok hX k (reps_ok hX _ (new_ok hX l[k] (runTo_ok hX hl k (by omega)))) X.recs.length).mono (by omega) (by omega) (by omega)
end Go.Proofs.Ytppncdbhebgcaaa.We
namespace Go.Proofs.Ytppncdbhebgcaaa.We
open Go.RowKit

theorem info_a : (Try.prog.info? 3).map (fun i => (i.zero, i.size, i.bytes)) = some (some (.int .i64 0), 1, 8) := by kernel_rfl
def intVs (l : List Int) : List Value := l.map (Value.int .i64)
theorem intVs_snoc (l : List Int) (n : Int) : intVs (l ++ [n]) = intVs l ++ [.int .i64 n] := by simp [intVs]

theorem ownsRow_ext {w w' : World} {B : Nat} {e : TypeId} {size : Nat} {v : Value} {n : Nat} {xs : List Value} (h : w.ownsRow B e size v n xs) (hE : Ext w w') : w'.ownsRow B e size v n xs := by
  refine ⟨h.1, ?_⟩
  rcases h.2 with h0 | ⟨g, cap, cur, hv, hb, hg, hr⟩
  · exact Or.inl h0
  · exact Or.inr ⟨g, cap, cur, hv, hb, (Below.block hE g (Array.getElem?_eq_some_iff.1 hg).1).trans hg, hr⟩
theorem ownsRow_fr {w w' : World} {E : Nat → Prop} {B : Nat} {e : TypeId} {size : Nat} {v : Value} {n : Nat} {xs : List Value} (h : w.ownsRow B e size v n xs) (hE : Fr E w w') (hn : ∀ g, v.ownBlock = some g → ¬E g) : w'.ownsRow B e size v n xs := by
  refine ⟨h.1, ?_⟩
  rcases h.2 with h0 | ⟨g, cap, cur, hv, hb, hg, hr⟩
  · exact Or.inl h0
  · exact Or.inr ⟨g, cap, cur, hv, hb, (hE.block g (Array.getElem?_eq_some_iff.1 hg).1 (hn g (by rw [hv]; rfl))).trans hg, hr⟩
theorem ownsRow_base {w : World} {B B' : Nat} {e : TypeId} {size : Nat} {v : Value} {n : Nat} {xs : List Value} (h : w.ownsRow B e size v n xs) (hB : B' ≤ B) : w.ownsRow B' e size v n xs := by
  refine ⟨h.1, ?_⟩
  rcases h.2 with h0 | ⟨g, cap, cur, hv, hb, hr⟩
  · exact Or.inl h0
  · exact Or.inr ⟨g, cap, cur, hv, Nat.le_trans hB hb, hr⟩
theorem ownsRow_at {w : World} {B : Nat} {e : TypeId} {v : Value} {n : Nat} {xs : List Value} (h : w.ownsRow B e 1 v n xs) (i : Nat) (hi : i < n) :
    ∃ b c, v = .slice (some ⟨b, 0, none⟩) n c ∧ w.cell? ⟨b, i, none⟩ = xs[i]? := by
  rcases h.2 with ⟨-, h0⟩ | ⟨g, cap, cur, rfl, -, hg, hc, -, hs, hx⟩
  · omega
  · refine ⟨g, cap, rfl, ?_⟩
    rw [cell_of_heap hg, ← hx, Nat.mul_one, List.getElem?_take, if_pos hi]
    simp
theorem row_ints {w : World} {B b c : Nat} {l : List Int} (h : w.ownsRow B 3 1 (.slice (some ⟨b, 0, none⟩) l.length c) l.length (intVs l)) : IntsAt w (some ⟨b, 0, none⟩) l := by
  intro i hi
  obtain ⟨b', c', he, hc⟩ := ownsRow_at h i hi
  cases he
  refine ⟨b, 0, _, rfl, ?_, rfl⟩
  rw [Nat.zero_add, hc]
  simp [intVs, hi]
theorem ownsRow_ints {w : World} {B : Nat} {v : Value} {l : List Int} (h : w.ownsRow B 3 1 v l.length (intVs l)) : IntsV w v l := by
  rcases h.2 with ⟨rfl, h0⟩ | ⟨g, cap, cur, rfl, -⟩
  · have : l = [] := List.length_eq_zero_iff.1 h0
    subst this
    exact ⟨none, 0, rfl, IntsAt.nil _ _⟩
  · exact ⟨_, _, rfl, row_ints h⟩
theorem ownsRow_setV {w : World} {B g n c i size : Nat} {e : TypeId} {xs : List Value} {u : Value} (h : w.ownsRow B e size (.slice (some ⟨g, 0, none⟩) n c) n xs) :
    (w.setCell ⟨g, i, none⟩ u).ownsRow B e size (.slice (some ⟨g, 0, none⟩) n c) n (xs.set i u) := by
  refine ⟨by rw [List.length_set]; exact h.1, ?_⟩
  rcases h.2 with ⟨hv, h0⟩ | ⟨g', cap, cur, hv, hB, hg, hc, hm, hs, hx⟩
  · cases hv
  · cases hv
    refine Or.inr ⟨g, c, cur.setIfInBounds i u, rfl, hB, heap_set hg rfl, hc, hm, by simpa using hs, ?_⟩
    rw [Array.toList_setIfInBounds, List.take_set, hx]
theorem ownsRow_frozen {w : World} {B g n c i size : Nat} {e : TypeId} {xs : List Value} (h : w.ownsRow B e size (.slice (some ⟨g, 0, none⟩) n c) n xs) : w.frozen? ⟨g, i, none⟩ = false := by
  rcases h.2 with ⟨hv, h0⟩ | ⟨g', cap, cur, hv, hB, hg, -⟩
  · cases hv
  · cases hv
    exact cell_frozen hg i
theorem grown_fr {w w' : World} {r : Option Nat} (h : w.grownBy w' r) : Fr (fun k => r = some k) w w' :=
  ⟨h.os, h.tape, h.output, h.size, fun k hk hn => h.block k hk (fun e => hn e.symm)⟩
theorem hnewsE {w w' : World} {v : Value} {t : TypeId} {g : Nat} (hE : Ext (w.alloc (.cells #[v] t)) w') (hg : g = w.heap.size) : ∀ j u, [v][j]? = some u → w'.cell? ((⟨g, 0, none⟩ : Addr).add j) = some u := by
  intro j u hj
  subst hg
  match j, hj with
  | 0, hj =>
    simp at hj
    subst hj
    have := hE.cell ((cell_of_heap (heap_new w (.cells #[v] t)) 0).trans rfl)
    simpa [Addr.add] using this
theorem one_int (n : Int) : ∀ u ∈ [Value.int .i64 n], u.oneCell' = true := by
  intro u hu; simp at hu; subst hu; rfl
theorem size_alloc (w : World) (o : Obj) : (w.alloc o).heap.size = w.heap.size + 1 := by show (w.heap.push o).size = _; simp
theorem heap_old {w : World} {b : Nat} {x : Obj} (o : Obj) (h : w.heap[b]? = some x) : (w.alloc o).heap[b]? = some x := by
  obtain ⟨hb, h'⟩ := Array.getElem?_eq_some_iff.1 h
  show (w.heap.push o)[b]? = some x
  rw [Array.getElem?_push_lt hb, h']
end Go.Proofs.Ytppncdbhebgcaaa.We
