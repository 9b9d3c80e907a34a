
/- The walk of ends. The walk of sums. The walk of between. The walk of Sums. What the program computes is what the plain law speaks of. -/
import Derived.Test.YtppncdbhebgcaaaXE
import Derived.Test.YtppncdbhebgcaaaXC
namespace Go.Proofs.Ytppncdbhebgcaaa
open Go.RowKit

end Go.Proofs.Ytppncdbhebgcaaa
namespace Go.Proofs.Ytppncdbhebgcaaa
open Go.RowKit

end Go.Proofs.Ytppncdbhebgcaaa
namespace Go.Proofs.Ytppncdbhebgcaaa
open Go.RowKit

end Go.Proofs.Ytppncdbhebgcaaa
namespace Go.Proofs.Ytppncdbhebgcaaa
open Go.RowKit

end Go.Proofs.Ytppncdbhebgcaaa
namespace Go.Proofs.Ytppncdbhebgcaaa
open Go.RowKit

/-- eight sets, as a list and as a function -/
def Same8 (P : List Nat) (q : Nat → Nat) : Prop := P.length = 8 ∧ ∀ c, c < 8 → P.getD c 0 = q c
theorem Same8.read {P : List Nat} {q : Nat → Nat} (h : Same8 P q) (right : Nat) : Same8 (readL P right) (readQ q right) := by
  refine ⟨by rw [readL_length, h.1], fun c hc => ?_⟩
  rw [readL_get (by rw [h.1]; exact hc), h.2 c hc]
  unfold readQ
  by_cases e : c = 0
  · rw [if_pos e, if_pos e]
  · rw [if_neg e, if_neg e, h.2 _ (by omega)]
theorem Same8.fold {f : Int × Int → Nat} : ∀ (rs : List (Int × Int)) {P : List Nat} {q : Nat → Nat}, Same8 P q → Same8 (rs.foldl (fun P r => readL P (f r)) P) (rs.foldl (fun q r => readQ q (f r)) q)
  | [], _, _, h => h
  | _ :: rs, _, _, h => Same8.fold rs (h.read _)
theorem Same8.map {P : List Nat} {q : Nat → Nat} (h : Same8 P q) (f : Nat → Nat) : Same8 (P.map f) (fun c => f (q c)) :=
  ⟨by rw [List.length_map, h.1], fun c hc => by rw [getD_map (by rw [h.1]; exact hc), h.2 c hc]⟩
theorem same8_start : Same8 [1, 0, 0, 0, 0, 0, 0, 0] startQ := by
  refine ⟨rfl, fun c hc => ?_⟩
  match c, hc with
  | 0, _ => rfl
  | 1, _ => rfl
  | 2, _ => rfl
  | 3, _ => rfl
  | 4, _ => rfl
  | 5, _ => rfl
  | 6, _ => rfl
  | 7, _ => rfl
theorem rdTo_all (M : Mt) (a : Nat) (fn : Int → Int) (q : Nat → Nat) : rdTo M a fn q M.reads.length = (atL M a).foldl (fun q r => readQ q (maskN (fn r.2).toNat)) q := by
  unfold rdTo atL
  rw [List.take_length]
theorem wide_eq {M : Mt} (hM : ValidM M) {i : Nat} (hi : i < M.weeks.length) : highN M i - lowN M i + 1 = wideN M i := by
  have := week_span hM hi
  unfold highN lowN wideN
  omega
theorem ahead_same {M : Mt} (hM : ValidM M) (a : Nat) (sh : Int) : ∀ k, a + k ≤ M.weeks.length → Same8 (aheadL M a sh k) (aheadF M a sh k) := by
  intro k
  induction k with
  | zero => intro _; exact same8_start
  | succ k ih =>
    intro hk
    unfold aheadL aheadF
    rw [rdTo_all, wide_eq hM (by omega)]
    exact ((ih (by omega)).map (fun S => spreadW S (lowN M (a + k)) (wideN M (a + k)))).fold (f := fun r => maskN (modI (r.2 - sh))) _
theorem before_same {M : Mt} (hM : ValidM M) {b : Nat} (hb : b ≤ M.weeks.length) (sh : Int) : ∀ k, k ≤ b → Same8 (beforeL M b sh k) (beforeF M b sh k) := by
  intro k
  induction k with
  | zero => intro _; exact same8_start
  | succ k ih =>
    intro hk
    unfold beforeL beforeF
    rw [rdTo_all, wide_eq hM (by omega)]
    exact ((ih (by omega)).map (fun S => spreadW S (lowN M (b - k - 1)) (wideN M (b - k - 1)))).fold (f := fun r => maskN (modI (sh - r.2))) _

theorem cnt_zero {S : Nat} (h : ∀ n, S.testBit n = true → n < 1536) : cnt 1536 S = 0 ↔ S = 0 := by
  unfold cnt
  rw [List.countP_eq_zero]
  constructor
  · intro h2
    rw [zero_iff]
    intro k
    cases hk : S.testBit k
    · rfl
    · exact absurd hk (h2 k (List.mem_range.2 (h k hk)))
  · rintro rfl n _
    rw [Nat.zero_testBit]; simp
theorem fewL_at : ∀ (P : List Nat) (k : Nat), k < P.length → P.getD k 0 ≠ 0 → (∀ c, c < k → P.getD c 0 = 0) → fewL P = k := by
  intro P
  induction P with
  | nil => intro k h; cases h
  | cons S P ih =>
    intro k hk h h2
    unfold fewL
    cases k with
    | zero =>
      have h0 : ¬S = 0 := h
      rw [if_neg h0]; rfl
    | succ k =>
      have h0 : S = 0 := h2 0 (by omega)
      have h3 := ih k (by simpa using hk) h (fun c hc => h2 (c + 1) (by omega))
      rw [if_pos h0, h3, if_neg (by omega)]
      simp
theorem fewL_none : ∀ (P : List Nat), (∀ c, c < P.length → P.getD c 0 = 0) → fewL P = -1 := by
  intro P
  induction P with
  | nil => intro _; rfl
  | cons S P ih =>
    intro h
    have h0 : S = 0 := h 0 (by simp)
    have h3 := ih (fun c hc => h (c + 1) (by simpa using hc))
    unfold fewL
    rw [if_pos h0, h3, if_pos (by omega)]
theorem few_same {P : List Nat} {q : Nat → Nat} (h : Same8 P q) (hb : ∀ c, c < 8 → ∀ n, (q c).testBit n = true → n < 1536) : fewQ q = fewL P := by
  by_cases hall : ∀ c, c < 8 → q c = 0
  · rw [fewQ_none (fun c hc => (cnt_zero (hb c hc)).2 (hall c hc)), fewL_none P (fun c hc => by rw [h.1] at hc; rw [h.2 c hc, hall c hc])]
  · have hex : ∃ c, c < 8 ∧ q c ≠ 0 := Classical.byContradiction fun h' => hall fun c hc => Classical.byContradiction fun h2 => h' ⟨c, hc, h2⟩
    obtain ⟨k, hk, hmin⟩ : ∃ k, (k < 8 ∧ q k ≠ 0) ∧ ∀ c, c < k → ¬(c < 8 ∧ q c ≠ 0) := by
      have key : ∀ n, (∃ c, c ≤ n ∧ c < 8 ∧ q c ≠ 0) → ∃ k, (k < 8 ∧ q k ≠ 0) ∧ ∀ c, c < k → ¬(c < 8 ∧ q c ≠ 0) := by
        intro n
        induction n with
        | zero => rintro ⟨c, h0, h1⟩; exact ⟨c, h1, fun d hd => by omega⟩
        | succ n ih =>
          rintro ⟨c, h0, h1⟩
          by_cases hx : ∃ c, c ≤ n ∧ c < 8 ∧ q c ≠ 0
          · exact ih hx
          · exact ⟨c, h1, fun d hd h2 => hx ⟨d, by omega, h2⟩⟩
      obtain ⟨c, hc⟩ := hex
      exact key c ⟨c, Nat.le_refl _, hc⟩
    have hz : ∀ c, c < k → q c = 0 := fun c hc => Classical.byContradiction fun h2 => hmin c hc ⟨by omega, h2⟩
    rw [fewQ_at hk.1 (Nat.pos_of_ne_zero fun e => hk.2 ((cnt_zero (hb k hk.1)).1 e)) (fun c hc => by rw [hz c hc]; exact (cnt_zero (fun n hn => by rw [Nat.zero_testBit] at hn; cases hn)).2 rfl)]
    exact (fewL_at P k (by rw [h.1]; exact hk.1) (by rw [h.2 k hk.1]; exact hk.2) (fun c hc => by rw [h.2 c (by omega), hz c hc])).symm

theorem ahead_bits {M : Mt} (hM : ValidM M) {sh : Int} (h0 : 0 ≤ sh) (h1 : sh < 100) {a b : Nat} (hab : a ≤ b) (hb : b ≤ M.weeks.length) : ∀ c, c < 8 → ∀ n, (aheadF M a sh (b - a) c).testBit n = true → n < 1536 := by
  intro c hc n hn
  rw [← (ahead_same hM a sh (b - a) (by omega)).2 c hc] at hn
  have hq := ((ahead_stands hM h0 h1 (a := a) (b - a) (by omega)).2 c hc n).1 hn
  have := ahead_bound hM hq (by omega) (by omega)
  have := hM.nw
  omega
theorem before_bits {M : Mt} (hM : ValidM M) {sh : Int} (h0 : 0 ≤ sh) (h1 : sh < 100) {b : Nat} (hb : b ≤ M.weeks.length) : ∀ c, c < 8 → ∀ n, (beforeF M b sh b c).testBit n = true → n < 1536 := by
  intro c hc n hn
  rw [← (before_same hM hb sh b (Nat.le_refl _)).2 c hc] at hn
  have hq := ((before_stands hM h0 h1 hb b (Nat.le_refl _)).2 c hc n).1 hn
  have := before_bound hM hq (by omega) (by omega)
  have := hM.nw
  omega
theorem fewA_eq {M : Mt} (hM : ValidM M) {sh : Int} (h0 : 0 ≤ sh) (h1 : sh < 100) {a b : Nat} (hab : a ≤ b) (hb : b ≤ M.weeks.length) : fewQ (aheadF M a sh (b - a)) = fewA M a b sh :=
  few_same (ahead_same hM a sh (b - a) (by omega)) (ahead_bits hM h0 h1 hab hb)
theorem fewB_eq {M : Mt} (hM : ValidM M) {sh : Int} (h0 : 0 ≤ sh) (h1 : sh < 100) {b : Nat} (hb : b ≤ M.weeks.length) : fewQ (beforeF M b sh b) = fewB M b sh :=
  few_same (before_same hM hb sh b (Nat.le_refl _)) (before_bits hM h0 h1 hb)
theorem wrongs_eq {M : Mt} (hM : ValidM M) {sh : Int} (h0 : 0 ≤ sh) (h1 : sh < 100) {a : Nat} (ha : a ≤ M.weeks.length) : wrongsF M a sh = wrongsN M a sh := by
  unfold wrongsF wrongsN
  rw [fewA_eq hM h0 h1 ha (Nat.le_refl _), fewB_eq hM h0 h1 ha]
theorem foldl_congr {α β : Type} {f g : β → α → β} : ∀ (l : List α) (b : β), (∀ b, ∀ x ∈ l, f b x = g b x) → l.foldl f b = l.foldl g b
  | [], _, _ => rfl
  | x :: l, b, h => by
    rw [List.foldl_cons, List.foldl_cons, h b x List.mem_cons_self]
    exact foldl_congr l _ (fun b y hy => h b y (List.mem_cons_of_mem _ hy))
theorem least_eq {M : Mt} (hM : ValidM M) : leastTo M 100 = leastN M := by
  unfold leastTo leastN
  exact foldl_congr _ _ (fun b s hs => by have := List.mem_range.1 hs; rw [wrongs_eq hM (by omega) (by omega) (Nat.zero_le _)])
theorem can_eq {M : Mt} (hM : ValidM M) {r : Int × Int} (hr : r ∈ M.reads) (right : Bool) : canF M r right = canN M r right := by
  have h := hM.read r hr
  unfold canF canN
  apply Bool.eq_iff_iff.2
  rw [List.any_eq_true, List.any_eq_true]
  constructor
  · rintro ⟨s, hs, h2⟩
    have := List.mem_range.1 hs
    unfold canT at h2
    rw [wrongs_eq hM (by omega) (by omega) (by omega)] at h2
    exact ⟨s, hs, h2⟩
  · rintro ⟨s, hs, h2⟩
    have := List.mem_range.1 hs
    refine ⟨s, hs, ?_⟩
    unfold canT
    rw [wrongs_eq hM (by omega) (by omega) (by omega)]
    exact h2
/-- What the program asks first: is there a truth? -/
theorem askV_t {M : Mt} (hM : ValidM M) : askV M true = if leastN M ≤ M.wrong then 0 else 3 := by
  unfold askV
  rw [if_pos hM, if_pos rfl, least_eq hM]
  by_cases h : leastN M ≤ M.wrong
  · rw [if_pos h, if_neg (by omega)]
  · rw [if_neg h, if_pos (by omega)]
theorem askV_iff {M : Mt} (hM : ValidM M) : askV M true = 0 ↔ ∃ D, Tru M D := by
  rw [askV_t hM, ← hasT_iff hM]
  by_cases h : leastN M ≤ M.wrong
  · rw [if_pos h]; simp [h]
  · rw [if_neg h]; simp [h]
end Go.Proofs.Ytppncdbhebgcaaa
