/- The plain laws of another start, of the weeks backwards, of a hundred more, of one more reading. -/
import Derived.Test.YtimelbcfaniifaaDoorXI
namespace Go.Proofs.YtimelbcfaniifaaDoor
open Go.RowKit

theorem nodup_perm_rot (b : Nat) (hb : b < 100) : ((List.range 100).map (fun s => (s + b) % 100)).Perm (List.range 100) := by
  have e : (List.range 100).map (fun s => (s + b) % 100) = (List.range 100).drop b ++ (List.range 100).take b := by
    apply List.ext_getElem?
    intro i
    by_cases hi : i < 100
    · rw [List.getElem?_map, List.getElem?_range hi]
      simp only [Option.map_some]
      by_cases h1 : i < 100 - b
      · rw [List.getElem?_append_left (by rw [List.length_drop, List.length_range]; exact h1), List.getElem?_drop, List.getElem?_range (by omega)]
        congr 1
        omega
      · rw [List.getElem?_append_right (by rw [List.length_drop, List.length_range]; omega), List.length_drop, List.length_range, List.getElem?_take, if_pos (by omega), List.getElem?_range (by omega)]
        congr 1
        omega
    · rw [List.getElem?_eq_none (by simp; omega), List.getElem?_eq_none (by simp; omega)]
  rw [e]
  have := List.perm_append_comm (l₁ := (List.range 100).drop b) (l₂ := (List.range 100).take b)
  rwa [List.take_append_drop] at this

/-! Another start. -/
def startF (b : Int) (r : Int × Int) : Int × Int := (r.1, (r.2 + b) % 100)
def startM (M : Mt) (b : Int) : Mt := ⟨M.weeks, M.reads.map (startF b), M.wrong⟩
section
variable {M : Mt} {b : Int}
theorem start_valid (hM : ValidM M) : ValidM (startM M b) :=
  ⟨hM.nw, by show (M.reads.map _).length ≤ 7; rw [List.length_map]; exact hM.nr, hM.wr0, hM.wr7, hM.week, fun r hr => by
    obtain ⟨r', h', rfl⟩ := List.mem_map.1 hr
    have := hM.read r' h'
    show 0 ≤ r'.1 ∧ r'.1 ≤ M.weeks.length ∧ 0 ≤ (r'.2 + b) % 100 ∧ (r'.2 + b) % 100 ≤ 99
    omega⟩
theorem start_iso (hM : ValidM M) : Iso M (startM M b) (fun D i => D i + b) (fun E i => E i - b) := by
  refine ⟨⟨fun D h i h0 h1 => ?_, fun D _ => wd_map rfl fun r hr => ?_⟩, ⟨fun E h i h0 h1 => ?_, fun E _ => (wd_map (M := M) (N := startM M b) (g := startF b) rfl fun r hr => ?_).symm⟩, rfl⟩
  · have := h i h0 h1
    show lowM M i ≤ D (i + 1) + b - (D i + b) ∧ D (i + 1) + b - (D i + b) ≤ highM M i
    omega
  · have := hM.read r hr
    show (D r.1.toNat + b) % 100 = (r.2 + b) % 100 ↔ D r.1.toNat % 100 = r.2
    omega
  · have h2 : lowM M i ≤ E (i + 1) - E i ∧ E (i + 1) - E i ≤ highM M i := h i h0 h1
    show lowM M i ≤ E (i + 1) - b - (E i - b) ∧ E (i + 1) - b - (E i - b) ≤ highM M i
    omega
  · have := hM.read r hr
    show E r.1.toNat % 100 = (r.2 + b) % 100 ↔ (E r.1.toNat - b) % 100 = r.2
    omega
theorem start_next (hM : ValidM M) (h0 : 0 ≤ b) : nextA M = nextA (startM M b) := by
  have hN := start_valid (b := b) hM
  have h := start_iso (b := b) hM
  refine h.nextA hM hN rfl fun a ha => ?_
  refine Nat.le_antisymm (most_le fun s hs => ⟨((s : Int) + b).toNat % 100, by omega, ?_⟩) (most_le fun s hs => ⟨(((s : Int) - b) % 100).toNat, by omega, ?_⟩)
  · exact count_le' hM hN ha ha hs (by omega) fun D hD e => ⟨fun i => D i + b, h.tru hD, by show (D a + b) % 100 = _; omega, by show D M.weeks.length + b - (D 0 + b) = _; omega⟩
  · exact count_le' hN hM ha ha hs (by omega) fun E hE e => ⟨fun i => E i - b, h.untru hE, by show (E a - b) % 100 = _; omega, by show E M.weeks.length - b - (E 0 - b) = E M.weeks.length - E 0; omega⟩
theorem start_shown (hM : ValidM M) {a : Nat} {x : Int} (h0 : 0 ≤ x) (h1 : x < 100) : ShownP M a x ↔ ShownP (startM M b) a ((x + b) % 100) := by
  have h := start_iso (b := b) hM
  constructor
  · rintro ⟨D, hD, e⟩
    exact ⟨fun i => D i + b, h.tru hD, by show (D a + b) % 100 = _; omega⟩
  · rintro ⟨E, hE, e⟩
    exact ⟨fun i => E i - b, h.untru hE, by show (E a - b) % 100 = _; omega⟩
theorem start_shows (hM : ValidM M) {bn : Nat} (hb : b = bn) (hb1 : bn < 100) (x : Int) :
    (showsA M x).length = (showsA (startM M b) x).length ∧ ∀ y ∈ showsA M x, (0 ≤ y ∧ y ≤ 99) ∧ (y + b) % 100 ∈ showsA (startM M b) x := by
  have hN := start_valid (b := b) hM
  have h := start_iso (b := b) hM
  have ha : askV M (isAf x M.weeks.length) = askV (startM M b) (isAf x M.weeks.length) := h.askB hM hN _
  unfold showsA
  have hw : (startM M b).weeks.length = M.weeks.length := rfl
  rw [hw, ← ha]
  by_cases hz : askV M (isAf x M.weeks.length) = 0
  · rw [hz, okL_0 rfl, okL_0 rfl]
    have hB : isAf x M.weeks.length = true := by
      cases hB : isAf x M.weeks.length
      · rw [hB, askV_false hM] at hz; exact absurd hz (by decide)
      · rfl
    have hx := isAf_iff.1 hB
    have hxa : x.toNat ≤ M.weeks.length := by omega
    constructor
    · rw [shows_eq hM hxa, shows_eq hN hxa, List.length_map, List.length_map]
      unfold showsL
      rw [← List.countP_eq_length_filter, ← List.countP_eq_length_filter, ← (nodup_perm_rot bn hb1).countP_eq (fun s => decide (wrongsN (startM M b) x.toNat (s : Nat) ≤ (startM M b).wrong)), List.countP_map]
      refine List.countP_congr fun s hs => ?_
      have hs' := List.mem_range.1 hs
      simp only [Function.comp, decide_eq_true_eq]
      rw [shows_iff hM (by omega) (by omega) hxa, shows_iff hN (by omega) (by omega) hxa]
      have := start_shown (b := b) hM (a := x.toNat) (x := (s : Int)) (by omega) (by omega)
      have e : ((((s + bn) % 100 : Nat)) : Int) = ((s : Int) + b) % 100 := by omega
      rw [e]
      exact this
    · intro y hy
      have hs := (shows_mem hM hxa).1 hy
      have hr : 0 ≤ y ∧ y < 100 := by obtain ⟨D, -, e⟩ := hs; omega
      exact ⟨by omega, (shows_mem hN hxa).2 ((start_shown hM hr.1 hr.2).1 hs)⟩
  · rw [okL_ne hz, okL_ne hz]
    exact ⟨rfl, fun y hy => by cases hy⟩
theorem start_week (hM : ValidM M) (i : Nat) :
    askV M (isWkB i M.weeks.length) = askV (startM M b) (isWkB i M.weeks.length) ∧ weekLo (startM M b) i = weekLo M i ∧ weekHi (startM M b) i = weekHi M i := by
  obtain ⟨h1, h2, h3⟩ := (start_iso (b := b) hM).week hM (start_valid hM) (a := (i : Int)) (b := (i : Int)) (k := 0) rfl fun _ => ⟨fun D => by omega, fun E => by omega⟩
  refine ⟨h1, ?_⟩
  by_cases hz : askV M (isWkB i M.weeks.length) = 0
  · have := h2 hz; omega
  · exact h3 hz
theorem start_sums (hM : ValidM M) (f t : Int) : sumsA M f t = sumsA (startM M b) f t ∧ askV M (areB f t M.weeks.length) = askV (startM M b) (areB f t M.weeks.length) :=
  (start_iso (b := b) hM).sumsA hM (start_valid hM) rfl fun _ => ⟨fun D => by omega, fun E => by omega⟩
theorem start_picks (hM : ValidM M) : strangeA M = strangeA (startM M b) ∧ sureA M = sureA (startM M b) := by
  refine (start_iso (b := b) hM).strangeA hM (start_valid hM) rfl (fun r hr D => ?_) fun r hr E => ?_
  · have := hM.read r hr
    show (D r.1.toNat + b) % 100 = (r.2 + b) % 100 ↔ D r.1.toNat % 100 = r.2
    omega
  · have := hM.read r hr
    show (E r.1.toNat - b) % 100 = r.2 ↔ E r.1.toNat % 100 = (r.2 + b) % 100
    omega
end

/-! The weeks backwards. -/
def backR (M : Mt) (r : Int × Int) : Int × Int := ((M.weeks.length : Int) - r.1, (100 - r.2) % 100)
def backW (M : Mt) : Nat → Int × Int := fun i => M.weeks.getD (M.weeks.length - 1 - i) (0, 0)
def backM (M : Mt) : Mt := ⟨(List.range M.weeks.length).map (backW M), M.reads.map (backR M), M.wrong⟩
def backD (n : Nat) (D : Nat → Int) : Nat → Int := fun i => - D (n - i)
section
variable {M : Mt}
theorem back_len : (backM M).weeks.length = M.weeks.length := by show ((List.range _).map _).length = _; simp
theorem back_low {i : Nat} (h : i < M.weeks.length) : lowM (backM M) i = lowM M (M.weeks.length - 1 - i) ∧ highM (backM M) i = highM M (M.weeks.length - 1 - i) := by
  have e : (backM M).weeks.getD i (0, 0) = M.weeks.getD (M.weeks.length - 1 - i) (0, 0) := by
    show ((List.range M.weeks.length).map (backW M)).getD i (0, 0) = _
    rw [List.getD_eq_getElem?_getD, List.getElem?_map, List.getElem?_range h]
    rfl
  unfold lowM highM
  rw [e]
  exact ⟨rfl, rfl⟩
theorem back_valid (hM : ValidM M) : ValidM (backM M) :=
  ⟨by rw [back_len]; exact hM.nw, by show (M.reads.map _).length ≤ 7; rw [List.length_map]; exact hM.nr, hM.wr0, hM.wr7, fun x hx => by
    obtain ⟨i, hi, rfl⟩ := List.mem_map.1 hx
    have hi' := List.mem_range.1 hi
    show 0 ≤ (backW M i).1 ∧ _
    unfold backW
    rw [List.getD_eq_getElem?_getD, List.getElem?_eq_getElem (by omega)]
    exact hM.week _ (List.getElem_mem (by omega)), fun r hr => by
    obtain ⟨r', h', rfl⟩ := List.mem_map.1 hr
    have := hM.read r' h'
    rw [back_len]
    show 0 ≤ (M.weeks.length : Int) - r'.1 ∧ (M.weeks.length : Int) - r'.1 ≤ M.weeks.length ∧ 0 ≤ (100 - r'.2) % 100 ∧ (100 - r'.2) % 100 ≤ 99
    omega⟩
theorem back_seg {D : Nat → Int} (h : Seg M D 0 M.weeks.length) : Seg (backM M) (backD M.weeks.length D) 0 M.weeks.length := by
  intro i _ hi
  have h2 := h (M.weeks.length - 1 - i) (by omega) (by omega)
  rw [(back_low hi).1, (back_low hi).2]
  unfold backD
  rw [show M.weeks.length - 1 - i + 1 = M.weeks.length - i by omega] at h2
  rw [show M.weeks.length - (i + 1) = M.weeks.length - 1 - i by omega]
  omega
theorem back_seg' {E : Nat → Int} (h : Seg (backM M) E 0 M.weeks.length) : Seg M (backD M.weeks.length E) 0 M.weeks.length := by
  intro i _ hi
  have h2 := h (M.weeks.length - 1 - i) (by omega) (by omega)
  rw [(back_low (by omega)).1, (back_low (by omega)).2] at h2
  unfold backD
  rw [show M.weeks.length - 1 - i + 1 = M.weeks.length - i by omega, show M.weeks.length - 1 - (M.weeks.length - 1 - i) = i by omega] at h2
  rw [show M.weeks.length - (i + 1) = M.weeks.length - 1 - i by omega]
  omega
theorem back_right {D : Nat → Int} {r : Int × Int} (hM : ValidM M) (hr : r ∈ M.reads) : (backD M.weeks.length D (backR M r).1.toNat % 100 = (backR M r).2) ↔ (D r.1.toNat % 100 = r.2) := by
  have := hM.read r hr
  unfold backD backR
  have e : M.weeks.length - ((M.weeks.length : Int) - r.1).toNat = r.1.toNat := by omega
  simp only [e]
  omega
theorem back_right' {E : Nat → Int} {r : Int × Int} (hM : ValidM M) (hr : r ∈ M.reads) : (backD M.weeks.length E r.1.toNat % 100 = r.2) ↔ (E (backR M r).1.toNat % 100 = (backR M r).2) := by
  have := hM.read r hr
  unfold backD backR
  have e : ((M.weeks.length : Int) - r.1).toNat = M.weeks.length - r.1.toNat := by omega
  simp only [e]
  omega
theorem back_iso (hM : ValidM M) : Iso M (backM M) (backD M.weeks.length) (backD M.weeks.length) :=
  ⟨⟨fun D h => by rw [back_len]; exact back_seg h, fun D _ => wd_map rfl fun r hr => back_right hM hr⟩,
    ⟨fun E h => by rw [back_len] at h; exact back_seg' h, fun E _ => (wd_map (M := M) (N := backM M) (g := backR M) rfl fun r hr => (back_right' hM hr).symm).symm⟩, rfl⟩
theorem back_sums (hM : ValidM M) (f t : Int) : sumsA M f t = sumsA (backM M) (M.weeks.length - t) (M.weeks.length - f) ∧ askV M (areB f t M.weeks.length) = askV (backM M) (areB (M.weeks.length - t) (M.weeks.length - f) (backM M).weeks.length) := by
  refine (back_iso hM).sumsA hM (back_valid hM) ?_ fun hB => ?_
  · rw [back_len]
    refine Bool.eq_iff_iff.2 ?_
    rw [areB_iff, areB_iff]
    omega
  · have hb := areB_iff.1 hB
    have e1 : ((M.weeks.length : Int) - f).toNat = M.weeks.length - f.toNat := by omega
    have e2 : ((M.weeks.length : Int) - t).toNat = M.weeks.length - t.toNat := by omega
    have e3 : M.weeks.length - (M.weeks.length - f.toNat) = f.toNat := by omega
    have e4 : M.weeks.length - (M.weeks.length - t.toNat) = t.toNat := by omega
    unfold backD
    rw [e1, e2]
    exact ⟨fun D => by rw [e3, e4]; omega, fun E => by omega⟩
theorem back_picks (hM : ValidM M) : strangeA M = strangeA (backM M) ∧ sureA M = sureA (backM M) :=
  (back_iso hM).strangeA hM (back_valid hM) rfl (fun _ hr _ => back_right hM hr) fun _ hr _ => back_right' hM hr
theorem back_week (hM : ValidM M) {i : Nat} (hi : i < M.weeks.length) :
    askV M (isWkB i M.weeks.length) = askV (backM M) (isWkB ((M.weeks.length : Int) - 1 - i) (backM M).weeks.length) ∧ weekLo (backM M) ((M.weeks.length : Int) - 1 - i) = weekLo M i ∧ weekHi (backM M) ((M.weeks.length : Int) - 1 - i) = weekHi M i := by
  obtain ⟨h1, h2, h3⟩ := (back_iso hM).week hM (back_valid hM) (a := (i : Int)) (b := (M.weeks.length : Int) - 1 - i) (k := 0) (by
    rw [back_len]
    refine Bool.eq_iff_iff.2 ?_
    rw [isWkB_iff, isWkB_iff]
    omega) fun _ => by
      have e1 : ((M.weeks.length : Int) - 1 - i).toNat = M.weeks.length - 1 - i := by omega
      have e2 : M.weeks.length - (M.weeks.length - 1 - i + 1) = i := by omega
      have e3 : M.weeks.length - (M.weeks.length - 1 - i) = i + 1 := by omega
      have e4 : M.weeks.length - i = M.weeks.length - 1 - i + 1 := by omega
      have e5 : M.weeks.length - (i + 1) = M.weeks.length - 1 - i := by omega
      unfold backD
      rw [e1, Int.toNat_natCast]
      exact ⟨fun D => by rw [e2, e3]; omega, fun E => by rw [e4, e5]; omega⟩
  refine ⟨h1, ?_⟩
  by_cases hz : askV M (isWkB i M.weeks.length) = 0
  · have := h2 hz; omega
  · exact h3 hz
end
end Go.Proofs.YtimelbcfaniifaaDoor
