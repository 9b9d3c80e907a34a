
/- The walk of Week. The walk of Shows. The walk of plus. What Shows says, in plain words. The walk of Next, from what totals answers. What totals lays together, as the plain law speaks of it. The walk of totals. The walk of Rounds. -/
import Derived.Test.YtaoamnhchidjfaaGreatDoorXF
namespace Go.Proofs.YtaoamnhchidjfaaGreatDoor
open Go.RowKit

/-- a span and an error -/
def RetSp (lo hi n : Int) (w : World) (e : Ending) (w' : World) : Prop := e = .returned (.tuple #[.agg #[.int .i64 lo, .int .i64 hi], .int .i64 n]) ∧ Ext w w'
def okN (n : Int) (x : Int) : Int := if n = 0 then x else 0
theorem okN_0 {n : Int} (h : n = 0) (x : Int) : okN n x = x := if_pos h
theorem okN_ne {n : Int} (h : ¬n = 0) (x : Int) : okN n x = 0 := if_neg h
def isWkB (k n : Int) : Bool := decide (0 ≤ k) && decide (k < n)
theorem heap_pair {w : World} {b : Nat} {t : TypeId} {x0 x1 y0 y1 : Value} (h : w.heap[b]? = some (.cells #[x0, x1] t)) :
    ((w.setCell ⟨b, 0, none⟩ y0).setCell ⟨b, 1, none⟩ y1).heap[b]? = some (.cells #[y0, y1] t) := heap_set (heap_set h rfl) rfl
theorem sumsL_bits {M : Mt} (hM : ValidM M) {a b : Nat} (hab : a ≤ b) (hb : b ≤ M.weeks.length) : bitsI (betTo M a b 100) = (sumsL M a b).map fun t : Nat => (t : Int) := by
  rw [bet_eq hM hab hb, bitsI_eq]; rfl

noncomputable def weekLo (M : Mt) (f : Int) : Int := okN (askV M (isWkB f M.weeks.length)) ((sumsL M f.toNat (f.toNat + 1)).headD 0 : Nat)
noncomputable def weekHi (M : Mt) (f : Int) : Int := okN (askV M (isWkB f M.weeks.length)) ((sumsL M f.toNat (f.toNat + 1)).getLastD 0 : Nat)
theorem week_ends {S : Nat} {l : List Nat} {lo hi : Int} (hne : l ≠ []) (hs : bitsI S = l.map fun t : Nat => (t : Int)) (h0 : lo = (l.headD 0 : Nat)) (h1 : hi = (l.getLastD 0 : Nat)) :
    ∃ (m : Nat) (k : List Int), bitsI S = k ∧ k.length = m + 1 ∧ (intVs k)[0]? = some (.int .i64 lo) ∧ (intVs k)[m]? = some (.int .i64 hi) := by
  subst h0; subst h1
  cases l with
  | nil => exact absurd rfl hne
  | cons a l =>
    refine ⟨l.length, _, hs, by simp, by simp [intVs], ?_⟩
    simp only [intVs, List.getElem?_map]
    have e : (a :: l)[l.length]? = some ((a :: l).getLastD 0) := by
      rw [List.getLastD_eq_getLast?, List.getLast?_eq_getElem?]
      simp
    rw [e]
    rfl

end Go.Proofs.YtaoamnhchidjfaaGreatDoor
namespace Go.Proofs.YtaoamnhchidjfaaGreatDoor
open Go.RowKit

def isAf (k n : Int) : Bool := decide (0 ≤ k) && decide (k ≤ n)
def showF (M : Mt) (a : Nat) (s : Nat) : Bool := decide (wrongsF M a (s : Int) ≤ M.wrong)

end Go.Proofs.YtaoamnhchidjfaaGreatDoor
namespace Go.Proofs.YtaoamnhchidjfaaGreatDoor
open Go.RowKit

def plusTo (A B k : Nat) : Nat := ((bitsN A).take k).foldl (fun out n => out ||| upN B n) 0
theorem plusTo_all (A B : Nat) : plusTo A B (bitsN A).length = plusN A B := by unfold plusTo plusN; rw [List.take_length]
theorem plusTo_succ (A B k n : Nat) (h : (bitsN A)[k]? = some n) : plusTo A B (k + 1) = plusTo A B k ||| upN B n := by
  unfold plusTo
  rw [List.take_add_one, h, List.foldl_append]
  rfl
theorem bitsI_at {A k : Nat} (h : k < (bitsI A).length) : ∃ n : Nat, n < 1536 ∧ (bitsN A)[k]? = some n ∧ (intVs (bitsI A))[k]? = some (.int .i64 (n : Int)) := by
  rw [bitsI_eq, List.length_map] at h
  refine ⟨(bitsN A)[k], (mem_bitsN.1 (List.getElem_mem h)).1, List.getElem?_eq_getElem h, ?_⟩
  rw [bitsI_eq]
  simp [intVs, h]
theorem own_shape {w : World} {B : Nat} {e : TypeId} {size : Nat} {v : Value} {n : Nat} {xs : List Value} (h : w.ownsRow B e size v n xs) : ∃ a c, v = .slice a n c := by
  rcases h.2 with ⟨rfl, h0⟩ | ⟨g, cap, cur, rfl, -⟩
  · exact ⟨none, 0, by rw [h0]⟩
  · exact ⟨_, _, rfl⟩
theorem upS04 (S n : Nat) (hn : n < 100000) (w : World) : Calls Tryz.prog 210 #[.agg (rowV 24 .u64 (setF S)), .int .i64 n] w (RetE (.agg (rowV 24 .u64 (setF (upN S n)))) w) := up04 S n hn w

end Go.Proofs.YtaoamnhchidjfaaGreatDoor
namespace Go.Proofs.YtaoamnhchidjfaaGreatDoor
open Go.RowKit

theorem shows_eq {M : Mt} (hM : ValidM M) {a : Nat} (ha : a ≤ M.weeks.length) : pickTo (showF M a) 100 = (showsL M a).map fun t : Nat => (t : Int) := by
  unfold pickTo showsL
  refine congrArg (List.map fun t : Nat => (t : Int)) (List.filter_congr fun s hs => ?_)
  rw [List.mem_range] at hs
  unfold showF
  rw [wrongs_eq hM (by omega) (by omega) ha]

theorem shows_mem {M : Mt} (hM : ValidM M) {a : Nat} (ha : a ≤ M.weeks.length) {x : Int} : x ∈ pickTo (showF M a) 100 ↔ ShownP M a x := by
  rw [shows_eq hM ha, List.mem_map]
  constructor
  · rintro ⟨n, hn, rfl⟩
    exact (mem_showsL hM ha).1 hn
  · intro h
    have h0 : 0 ≤ x := by
      obtain ⟨D, -, e⟩ := h
      omega
    obtain ⟨n, rfl⟩ : ∃ n : Nat, x = n := ⟨x.toNat, by omega⟩
    exact ⟨n, (mem_showsL hM ha).2 h, rfl⟩
end Go.Proofs.YtaoamnhchidjfaaGreatDoor
namespace Go.Proofs.YtaoamnhchidjfaaGreatDoor
open Go.RowKit

def mostTo (M : Mt) (a k : Nat) : Nat := (List.range k).foldl (fun m s => max m (countN M a s)) 0
theorem mostTo_succ (M : Mt) (a k : Nat) : mostTo M a (k + 1) = max (mostTo M a k) (countN M a k) := by
  unfold mostTo
  rw [List.range_succ, List.foldl_append]
  rfl
def nextTo (M : Mt) (k : Nat) : Nat × Nat := (List.range k).foldl (nextStep M) (0, 1073741824)
theorem nextTo_succ (M : Mt) (k : Nat) : nextTo M (k + 1) = nextStep M (nextTo M k) k := by
  unfold nextTo
  rw [List.range_succ, List.foldl_append]
  rfl

end Go.Proofs.YtaoamnhchidjfaaGreatDoor
namespace Go.Proofs.YtaoamnhchidjfaaGreatDoor
open Go.RowKit

def lowTo (q : Nat → Nat) (k : Nat) : Nat := (List.range k).foldl (fun o d => o ||| q d) 0
theorem lowTo_succ (q : Nat → Nat) (k : Nat) : lowTo q (k + 1) = lowTo q k ||| q k := by
  unfold lowTo
  rw [List.range_succ, List.foldl_append]
  rfl
theorem low_same {P : List Nat} {q : Nat → Nat} (h : Same8 P q) {k : Nat} (hk : k ≤ 8) : lowTo q k = lowOr P k := by
  unfold lowTo lowOr
  exact foldl_congr _ _ (fun o d hd => by rw [h.2 d (by have := List.mem_range.1 hd; omega)])
def rndN (x : Int) : Nat := min 8 x.toNat
theorem rndN_le (x : Int) : rndN x ≤ 8 := Nat.min_le_left _ _
theorem rndN_lt {x : Int} {k : Nat} (h : k < 8) (h2 : (k : Int) < x) : k < rndN x := by unfold rndN; omega
theorem rndN_ge {x : Int} {k : Nat} (h : ¬(k : Int) < x) : rndN x ≤ k := by unfold rndN; omega
def totTo (A B : Nat → Nat) (l : Int) (k : Nat) : Nat := (List.range k).foldl (fun o (c : Nat) => o ||| plusN (A c) (lowTo B (rndN (l + 1 - c)))) 0
theorem totTo_succ (A B : Nat → Nat) (l : Int) (k : Nat) : totTo A B l (k + 1) = totTo A B l k ||| plusN (A k) (lowTo B (rndN (l + 1 - k))) := by
  unfold totTo
  rw [List.range_succ, List.foldl_append]
  rfl
theorem tot_eq {M : Mt} (hM : ValidM M) {sh : Int} {a : Nat} (ha : a ≤ M.weeks.length) :
    totTo (beforeF M a sh a) (aheadF M a sh (M.weeks.length - a)) (M.wrong - hereW M a sh) (rndN (M.wrong - hereW M a sh + 1)) = totalsN M a sh := by
  unfold totTo totalsN
  refine foldl_congr _ _ (fun o c hc => ?_)
  have hc8 : c < 8 := by have := List.mem_range.1 hc; unfold rndN at this; omega
  rw [(before_same hM ha sh a (Nat.le_refl _)).2 c hc8, low_same (ahead_same hM a sh (M.weeks.length - a) (by omega)) (rndN_le _)]
  rfl
theorem cnt_bits (S : Nat) : cnt 1536 S = (bitsN S).length := by
  unfold cnt bitsN
  rw [List.countP_eq_length_filter]
theorem count_eq {M : Mt} (hM : ValidM M) {sh : Int} (h0 : 0 ≤ sh) {a : Nat} (ha : a ≤ M.weeks.length) :
    cnt 1536 (totTo (beforeF M a sh a) (aheadF M a sh (M.weeks.length - a)) (M.wrong - hereW M a sh) (rndN (M.wrong - hereW M a sh + 1))) = countN M a sh.toNat := by
  rw [tot_eq hM ha, cnt_bits]
  unfold countN
  rw [Int.toNat_of_nonneg h0]
end Go.Proofs.YtaoamnhchidjfaaGreatDoor
namespace Go.Proofs.YtaoamnhchidjfaaGreatDoor
open Go.RowKit

end Go.Proofs.YtaoamnhchidjfaaGreatDoor
namespace Go.Proofs.YtaoamnhchidjfaaGreatDoor
open Go.RowKit

def roundsTo (M : Mt) (k : Nat) : Int × Int := (List.range k).foldl (roundsStep M) (1073741824, -1)
theorem roundsTo_succ (M : Mt) (k : Nat) : roundsTo M (k + 1) = roundsStep M (roundsTo M k) k := by
  unfold roundsTo
  rw [List.range_succ, List.foldl_append, List.foldl_cons, List.foldl_nil]
noncomputable def roundLo (M : Mt) : Int := okN (askV M true) (roundsN M).1
noncomputable def roundHi (M : Mt) : Int := okN (askV M true) (roundsN M).2
theorem quo100 {x : Int} (h0 : 0 ≤ x) (h1 : x < 100000) : IntKind.i64.wrap (x.tdiv 100) = x / 100 := by
  rw [Int.tdiv_eq_ediv_of_nonneg h0]
  exact IntWalk.i64_in _ (by omega)
theorem pair_keep {w w' : World} {b : Nat} {t : TypeId} {x y : Value} (h : w.heap[b]? = some (.cells #[x, y] t)) (hE : Ext w w') : w'.heap[b]? = some (.cells #[x, y] t) :=
  (hE.block b (Array.getElem?_eq_some_iff.1 h).1).trans h

end Go.Proofs.YtaoamnhchidjfaaGreatDoor
