
/- The plain laws of a hundred more, of one more reading, of the parts. -/
import Derived.Test.YtaoamnhchidjfaaGreatDoorXI
namespace Go.Proofs.YtaoamnhchidjfaaGreatDoor
open Go.RowKit

/-! A hundred more. -/
def hundM (M : Mt) (k : Nat) : Mt := ⟨M.weeks.set k (lowM M k + 100, highM M k + 100), M.reads, M.wrong⟩
def hundD (k : Nat) (D : Nat → Int) : Nat → Int := fun i => D i + (if k < i then 100 else 0)
def hundU (k : Nat) (D : Nat → Int) : Nat → Int := fun i => D i - (if k < i then 100 else 0)
section
variable {M : Mt} {k : Nat}
theorem hund_len : (hundM M k).weeks.length = M.weeks.length := by show (M.weeks.set _ _).length = _; simp
theorem hund_low {i : Nat} (hk : k < M.weeks.length) : lowM (hundM M k) i = lowM M i + (if i = k then 100 else 0) ∧ highM (hundM M k) i = highM M i + (if i = k then 100 else 0) := by
  have e : (hundM M k).weeks.getD i (0, 0) = if k = i then (lowM M k + 100, highM M k + 100) else M.weeks.getD i (0, 0) := by
    show (M.weeks.set k _).getD i (0, 0) = _
    rw [List.getD_eq_getElem?_getD, List.getElem?_set]
    by_cases e : k = i
    · subst e; rw [if_pos rfl, if_pos hk, if_pos rfl]; rfl
    · rw [if_neg e, if_neg e, List.getD_eq_getElem?_getD]
  unfold lowM highM
  rw [e]
  by_cases h : k = i
  · subst h; rw [if_pos rfl, if_pos rfl]; exact ⟨rfl, rfl⟩
  · rw [if_neg h, if_neg (fun e => h e.symm)]; simp
theorem hund_valid (hM : ValidM M) (hk : k < M.weeks.length) (hh : highM M k ≤ 200) : ValidM (hundM M k) :=
  ⟨by rw [hund_len]; exact hM.nw, hM.nr, hM.wr0, hM.wr7, fun x hx => by
    have hs := week_span hM hk
    rcases List.mem_or_eq_of_mem_set hx with h | rfl
    · exact hM.week x h
    · show 0 ≤ lowM M k + 100 ∧ lowM M k + 100 ≤ highM M k + 100 ∧ highM M k + 100 ≤ 300
      omega, fun r hr => by rw [hund_len]; exact hM.read r hr⟩
theorem hund_iso (hk : k < M.weeks.length) : Iso M (hundM M k) (hundD k) (hundU k) := by
  refine ⟨⟨fun D h i h0 h1 => ?_, fun D _ => ?_⟩, ⟨fun E h i h0 h1 => ?_, fun E _ => ?_⟩, rfl⟩
  · rw [hund_len] at h1
    have h2 := h i h0 h1
    rw [(hund_low hk).1, (hund_low hk).2]
    unfold hundD
    split <;> split <;> split <;> omega
  · show wIn M.reads (hundD k D) _ = wIn M.reads D _
    refine wIn_congr fun r _ _ => ?_
    unfold hundD
    split <;> omega
  · have h2 := h i h0 (by rw [hund_len]; exact h1)
    rw [(hund_low hk).1, (hund_low hk).2] at h2
    unfold hundU
    split at h2 <;> split <;> split <;> omega
  · show wIn M.reads (hundU k E) _ = wIn M.reads E _
    refine wIn_congr fun r _ _ => ?_
    unfold hundU
    split <;> omega
theorem hund_week (hM : ValidM M) (hk : k < M.weeks.length) (hh : highM M k ≤ 200) (i : Nat) :
    askV M (isWkB i M.weeks.length) = askV (hundM M k) (isWkB i M.weeks.length) ∧ (askV M (isWkB i M.weeks.length) = 0 → weekLo (hundM M k) i = weekLo M i + (if i = k then 100 else 0) ∧ weekHi (hundM M k) i = weekHi M i + (if i = k then 100 else 0)) ∧
      (¬askV M (isWkB i M.weeks.length) = 0 → weekLo (hundM M k) i = weekLo M i ∧ weekHi (hundM M k) i = weekHi M i) := by
  have h := (hund_iso (M := M) hk).week hM (hund_valid hM hk hh) (a := (i : Int)) (b := (i : Int)) (k := if i = k then 100 else 0) (by rw [hund_len]) fun _ => by
    unfold hundD hundU
    rw [Int.toNat_natCast]
    exact ⟨fun D => by split <;> split <;> split <;> omega, fun E => by split <;> split <;> split <;> omega⟩
  rw [hund_len] at h
  exact h
theorem hund_shows (hM : ValidM M) (hk : k < M.weeks.length) (hh : highM M k ≤ 200) (a : Int) : showsA M a = showsA (hundM M k) a ∧ askV M (isAf a M.weeks.length) = askV (hundM M k) (isAf a M.weeks.length) := by
  have h := (hund_iso (M := M) hk).showsA hM (hund_valid hM hk hh) (a := a) (b := a) (by rw [hund_len]) fun _ => by
    unfold hundD hundU
    exact ⟨fun D => by split <;> omega, fun E => by split <;> omega⟩
  rw [hund_len] at h
  exact h
theorem hund_rounds (hM : ValidM M) (hk : k < M.weeks.length) (hh : highM M k ≤ 200) :
    (askV M true = 0 → roundLo (hundM M k) = roundLo M + 1 ∧ roundHi (hundM M k) = roundHi M + 1) ∧ (¬askV M true = 0 → roundLo (hundM M k) = roundLo M ∧ roundHi (hundM M k) = roundHi M) :=
  (hund_iso (M := M) hk).roundsA hM (hund_valid hM hk hh) (fun D => by unfold rd; rw [hund_len]; unfold hundD; rw [if_pos hk, if_neg (by omega)]; omega) (fun E => by unfold rd; rw [hund_len]; unfold hundU; rw [if_pos hk, if_neg (by omega)]; omega)
end

/-! What the answers are, for a valid meter. -/
section
variable {M : Mt}
theorem sumsA_list (hM : ValidM M) {f t : Int} (hb : areB f t M.weeks.length = true) (hz : askV M true = 0) : sumsA M f t = (sumsL M f.toNat t.toNat).map (fun n : Nat => (n : Int)) ∧ f.toNat ≤ t.toNat ∧ t.toNat ≤ M.weeks.length := by
  have h := areB_iff.1 hb
  unfold sumsA
  rw [hb, hz, okL_0 rfl, sumsL_bits hM (by omega) (by omega)]
  exact ⟨rfl, by omega, by omega⟩
theorem sumsA_mem (hM : ValidM M) {f t : Int} (hb : areB f t M.weeks.length = true) (hz : askV M true = 0) {x : Int} : x ∈ sumsA M f t ↔ PlaysP M f.toNat t.toNat x := by
  obtain ⟨e, h1, h2⟩ := sumsA_list hM hb hz
  rw [e, List.mem_map]
  constructor
  · rintro ⟨n, hn, rfl⟩
    exact (mem_sumsL hM h1 h2).1 hn
  · rintro ⟨D, hD, e⟩
    have hb' := tru_bound hM hD h1 h2
    exact ⟨x.toNat, (mem_sumsL hM h1 h2).2 ⟨D, hD, by omega⟩, by omega⟩
theorem showsA_list (hM : ValidM M) {a : Int} (hb : isAf a M.weeks.length = true) (hz : askV M true = 0) : showsA M a = (showsL M a.toNat).map (fun n : Nat => (n : Int)) ∧ a.toNat ≤ M.weeks.length := by
  have h := isAf_iff.1 hb
  unfold showsA
  rw [hb, hz, okL_0 rfl, shows_eq hM (by omega)]
  exact ⟨rfl, by omega⟩
theorem showsA_mem (hM : ValidM M) {a : Int} (hb : isAf a M.weeks.length = true) (hz : askV M true = 0) {x : Int} : x ∈ showsA M a ↔ ShownP M a.toNat x := by
  have h := isAf_iff.1 hb
  unfold showsA
  rw [hb, hz, okL_0 rfl]
  exact shows_mem hM (by omega)
theorem roundA_span (hM : ValidM M) (hz : askV M true = 0) : SpanOf (RoundsP M) (roundLo M) (roundHi M) := by
  unfold roundLo roundHi
  rw [hz, okN_0 rfl, okN_0 rfl]
  exact rounds_law hM ((askV_iff hM).1 hz)
theorem weekA_span (hM : ValidM M) {i : Nat} (hi : i < M.weeks.length) (hz : askV M true = 0) : SpanOf (PlaysP M i (i + 1)) (weekLo M i) (weekHi M i) := by
  have hB : isWkB i M.weeks.length = true := isWkB_iff.2 (by omega)
  unfold weekLo weekHi
  rw [hB, hz, okN_0 rfl, okN_0 rfl, Int.toNat_natCast]
  exact (week_span_of hM (by omega) (by omega) ((askV_iff hM).1 hz)).2
theorem weekA_small (hM : ValidM M) {i : Nat} (hi : i < M.weeks.length) (hz : askV M true = 0) : 0 ≤ weekLo M i ∧ weekLo M i ≤ weekHi M i ∧ weekHi M i ≤ 1500 := by
  have h := weekA_span hM hi hz
  obtain ⟨D, hD, e⟩ := h.1
  obtain ⟨E, hE, e2⟩ := h.2.1
  have b1 := tru_bound hM hD (show i ≤ i + 1 by omega) (by omega)
  have b2 := tru_bound hM hE (show i ≤ i + 1 by omega) (by omega)
  have := h.le
  omega
theorem roundA_small (hM : ValidM M) (hz : askV M true = 0) : 0 ≤ roundLo M ∧ roundLo M ≤ roundHi M ∧ roundHi M ≤ 16 := by
  have h := roundA_span hM hz
  have b1 := rounds_small hM h.1
  have b2 := rounds_small hM h.2.1
  have := h.le
  omega
theorem week_small' (hM : ValidM M) {i : Nat} (hi : i < M.weeks.length) : 0 ≤ weekLo M i ∧ weekLo M i ≤ weekHi M i ∧ weekHi M i ≤ 1500 := by
  have hB : isWkB i M.weeks.length = true := isWkB_iff.2 (by omega)
  by_cases hz : askV M true = 0
  · exact weekA_small hM hi hz
  · unfold weekLo weekHi
    rw [hB, okN_ne hz, okN_ne hz]
    omega
theorem round_small' (hM : ValidM M) : 0 ≤ roundLo M ∧ roundLo M ≤ roundHi M ∧ roundHi M ≤ 16 := by
  by_cases hz : askV M true = 0
  · exact roundA_small hM hz
  · unfold roundLo roundHi
    rw [okN_ne hz, okN_ne hz]
    omega
end

/-! One more reading. -/
def moreM (M : Mt) (r : Int × Int) : Mt := ⟨M.weeks, M.reads ++ [r], M.wrong⟩
section
variable {M : Mt} {r : Int × Int}
theorem more_wd (D : Nat → Int) : Wd M D ≤ Wd (moreM M r) D ∧ Wd (moreM M r) D ≤ Wd M D + 1 := by
  have e : Wd (moreM M r) D = Wd M D + wIn [r] D (fun _ => true) := by
    unfold Wd wIn moreM
    rw [List.countP_append]
  have h : wIn [r] D (fun _ => true) ≤ 1 := wIn_le
  omega
theorem more_tru {D : Nat → Int} (h : Tru (moreM M r) D) : Tru M D := ⟨h.1, by have := (more_wd (M := M) (r := r) D).1; have h2 : (Wd (moreM M r) D : Int) ≤ M.wrong := h.2; omega⟩
theorem more_least (hM : ValidM M) (hN : ValidM (moreM M r)) : leastN M ≤ leastN (moreM M r) ∧ leastN (moreM M r) ≤ leastN M + 1 ∧ 0 ≤ leastN M ∧ leastN M ≤ M.reads.length := by
  obtain ⟨h1, D, h2, h3⟩ := least_law hM
  obtain ⟨g1, E, g2, g3⟩ := least_law hN
  have a1 := h1 E g2
  have a2 := g1 D h2
  have a3 := more_wd (M := M) (r := r) D
  have a4 := more_wd (M := M) (r := r) E
  have a5 : Wd M D ≤ M.reads.length := wIn_le
  omega
theorem ask0_iff (hM : ValidM M) : askV M true = 0 ↔ leastN M ≤ M.wrong := by
  rw [askV_t hM]
  by_cases h : leastN M ≤ M.wrong
  · rw [if_pos h]; simp [h]
  · rw [if_neg h]; simp [h]
theorem more_ask (hM : ValidM M) (hN : ValidM (moreM M r)) (h : askV (moreM M r) true = 0) : askV M true = 0 := by
  have := more_least hM hN
  have h2 := (ask0_iff hN).1 h
  exact (ask0_iff hM).2 (by show leastN M ≤ (moreM M r).wrong; omega)
theorem more_sums (hM : ValidM M) (hN : ValidM (moreM M r)) {f t : Int} (hb : areB f t M.weeks.length = true) (h : askV (moreM M r) true = 0) :
    (sumsA (moreM M r) f t).length ≤ (sumsA M f t).length ∧ ∀ x ∈ sumsA (moreM M r) f t, x ∈ sumsA M f t := by
  have hz := more_ask hM hN h
  obtain ⟨e1, h1, h2⟩ := sumsA_list hM hb hz
  obtain ⟨e2, -, -⟩ := sumsA_list hN hb h
  constructor
  · rw [e1, e2, List.length_map, List.length_map]
    unfold sumsL
    refine bits_le fun n hn => ?_
    obtain ⟨D, hD, e⟩ := (between_law hN h1 h2).1 hn
    exact (between_law hM h1 h2).2 ⟨D, more_tru hD, e⟩
  · intro x hx
    obtain ⟨D, hD, e⟩ := (sumsA_mem hN hb h).1 hx
    exact (sumsA_mem hM hb hz).2 ⟨D, more_tru hD, e⟩
theorem more_shows (hM : ValidM M) (hN : ValidM (moreM M r)) {a : Int} (hb : isAf a M.weeks.length = true) (h : askV (moreM M r) true = 0) :
    (showsA (moreM M r) a).length ≤ (showsA M a).length ∧ ∀ x ∈ showsA (moreM M r) a, x ∈ showsA M a := by
  have hz := more_ask hM hN h
  obtain ⟨e1, h1⟩ := showsA_list hM hb hz
  obtain ⟨e2, -⟩ := showsA_list hN hb h
  constructor
  · rw [e1, e2, List.length_map, List.length_map]
    unfold showsL
    rw [← List.countP_eq_length_filter, ← List.countP_eq_length_filter]
    refine List.countP_mono_left fun s hs hp => ?_
    have hs' := List.mem_range.1 hs
    rw [decide_eq_true_eq] at hp ⊢
    obtain ⟨D, hD, e⟩ := (shows_iff hN (by omega) (by omega) h1).1 hp
    exact (shows_iff hM (by omega) (by omega) h1).2 ⟨D, more_tru hD, e⟩
  · intro x hx
    obtain ⟨D, hD, e⟩ := (showsA_mem hN hb h).1 hx
    exact (showsA_mem hM hb hz).2 ⟨D, more_tru hD, e⟩
theorem more_rounds (hM : ValidM M) (hN : ValidM (moreM M r)) (h : askV (moreM M r) true = 0) : roundLo M ≤ roundLo (moreM M r) ∧ roundHi (moreM M r) ≤ roundHi M := by
  have s1 := roundA_span hM (more_ask hM hN h)
  have s2 := roundA_span hN h
  obtain ⟨D, hD, e⟩ := s2.1
  obtain ⟨E, hE, e2⟩ := s2.2.1
  exact ⟨(s1.2.2 _ ⟨D, more_tru hD, e⟩).1, (s1.2.2 _ ⟨E, more_tru hE, e2⟩).2⟩
theorem more_week (hM : ValidM M) (hN : ValidM (moreM M r)) {i : Nat} (hi : i < M.weeks.length) (h : askV (moreM M r) true = 0) : weekLo M i ≤ weekLo (moreM M r) i ∧ weekHi (moreM M r) i ≤ weekHi M i := by
  have s1 := weekA_span hM hi (more_ask hM hN h)
  have s2 := weekA_span hN hi h
  obtain ⟨D, hD, e⟩ := s2.1
  obtain ⟨E, hE, e2⟩ := s2.2.1
  exact ⟨(s1.2.2 _ ⟨D, more_tru hD, e⟩).1, (s1.2.2 _ ⟨E, more_tru hE, e2⟩).2⟩
end

/-! The parts. -/
section
variable {M : Mt}
theorem parts_zero (hM : ValidM M) {a : Int} (hb : areB a a M.weeks.length = true) (hz : askV M true = 0) : sumsA M a a = [0] := by
  obtain ⟨e, h1, h2⟩ := sumsA_list hM hb hz
  rw [e]
  have hl : sumsL M a.toNat a.toNat = [0] := by
    have key : sumsL M a.toNat a.toNat = (List.range 1536).filter (fun n => decide (n = 0)) := by
      unfold sumsL bitsN
      refine List.filter_congr fun n _ => Bool.eq_iff_iff.2 ?_
      rw [between_law hM h1 h2, decide_eq_true_eq]
      constructor
      · rintro ⟨D, -, e⟩; omega
      · rintro rfl
        obtain ⟨D, hD⟩ := (askV_iff hM).1 hz
        exact ⟨D, hD, by simp⟩
    rw [key]
    decide +kernel
  rw [hl]; rfl
theorem parts_split (hM : ValidM M) {f a t : Int} (h1 : areB f a M.weeks.length = true) (h2 : areB a t M.weeks.length = true) (hz : askV M true = 0) {x : Int} (hx : x ∈ sumsA M f t) :
    ∃ y ∈ sumsA M f a, x - y ∈ sumsA M a t := by
  have b1 := areB_iff.1 h1
  have b2 := areB_iff.1 h2
  have h3 : areB f t M.weeks.length = true := areB_iff.2 (by omega)
  obtain ⟨D, hD, e⟩ := (sumsA_mem hM h3 hz).1 hx
  refine ⟨D a.toNat - D f.toNat, (sumsA_mem hM h1 hz).2 ⟨D, hD, rfl⟩, (sumsA_mem hM h2 hz).2 ⟨D, hD, by omega⟩⟩
theorem sumsA_bound (hM : ValidM M) {f t : Int} (hb : areB f t M.weeks.length = true) (hz : askV M true = 0) {x : Int} (hx : x ∈ sumsA M f t) : 0 ≤ x ∧ x ≤ 1500 := by
  obtain ⟨D, hD, e⟩ := (sumsA_mem hM hb hz).1 hx
  obtain ⟨-, h1, h2⟩ := sumsA_list hM hb hz
  have := tru_bound hM hD h1 h2
  omega
theorem sumsA_ne (hM : ValidM M) {f t : Int} (hb : areB f t M.weeks.length = true) (hz : askV M true = 0) : sumsA M f t ≠ [] := by
  obtain ⟨D, hD⟩ := (askV_iff hM).1 hz
  exact List.ne_nil_of_mem ((sumsA_mem hM hb hz).2 ⟨D, hD, rfl⟩)
end
end Go.Proofs.YtaoamnhchidjfaaGreatDoor
