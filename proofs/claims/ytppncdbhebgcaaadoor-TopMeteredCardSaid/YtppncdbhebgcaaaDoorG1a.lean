
/- The meter of a record that is played on trays, rightly read: plain law. -/
import Derived.Test.YtppncdbhebgcaaaDoorQ7n
namespace Go.Proofs.YtppncdbhebgcaaaDoor
open Go.RowKit

theorem one_of {l : List Int} {x : Int} (h1 : l.Pairwise (· < ·)) (h : ∀ y, y ∈ l ↔ y = x) : l = [x] := by
  match l, h1, h with
  | [], _, h => exact absurd ((h x).2 rfl) List.not_mem_nil
  | [a], _, h => rw [(h a).1 List.mem_cons_self]
  | a :: b :: r, h1, h =>
    have e1 := (h a).1 List.mem_cons_self
    have e2 := (h b).1 (by simp)
    have := List.rel_of_pairwise_cons h1 (a' := b) (by simp)
    omega
/-- the plays of the first weeks together -/
def psL (L : List Int) (i : Nat) : Int := (L.take i).sum
theorem psL_zero (L : List Int) : psL L 0 = 0 := rfl
theorem psL_succ {L : List Int} {i : Nat} (h : i < L.length) : psL L (i + 1) = psL L i + L[i] := by
  unfold psL
  rw [List.take_succ_eq_append_getElem h, List.sum_append]
  simp
theorem psL_snoc (L : List Int) (x : Int) {i : Nat} (h : i ≤ L.length) : psL (L ++ [x]) i = psL L i := by
  unfold psL
  rw [List.take_append_of_le_length h]
theorem psL_all (L : List Int) (x : Int) : psL (L ++ [x]) (L.length + 1) = psL L L.length + x := by
  rw [psL_succ (by simp), psL_snoc L x (Nat.le_refl _)]
  simp
theorem psL_bound {L : List Int} {b : Int} (hb : ∀ x ∈ L, 0 ≤ x ∧ x ≤ b) : ∀ i, i ≤ L.length → 0 ≤ psL L i ∧ psL L i ≤ i * b := by
  intro i
  induction i with
  | zero => intro _; rw [psL_zero]; constructor; omega; simp
  | succ i ih =>
    intro h
    rw [psL_succ (by omega)]
    have h1 := ih (by omega)
    have h2 := hb _ (List.getElem_mem (by omega : i < L.length))
    have h3 : ((i + 1 : Nat) : Int) * b = (i : Int) * b + b := by rw [Int.natCast_add, Int.add_mul]; simp
    rw [h3]
    omega
def wkM (fe mo : Int) (n : Int) : Int × Int := (max 0 (n - fe), n + mo)
def rdM (st : Int) (L : List Int) (i : Nat) : Int × Int := (i, (st + psL L i) % 100)
def metM (st fe mo : Int) (L : List Int) : Mt := ⟨L.map (wkM fe mo), (List.range (L.length + 1)).map (rdM st L), 0⟩
theorem metM_snoc_w (st fe mo : Int) (L : List Int) (x : Int) : (metM st fe mo (L ++ [x])).weeks = (metM st fe mo L).weeks ++ [wkM fe mo x] := by simp [metM]
theorem metM_snoc_r (st fe mo : Int) (L : List Int) (x : Int) : (metM st fe mo (L ++ [x])).reads = (metM st fe mo L).reads ++ [((L.length : Int) + 1, (st + (psL L L.length + x)) % 100)] := by
  unfold metM
  simp only [List.length_append, List.length_singleton]
  rw [List.range_succ, List.map_append]
  have h1 : rdM st (L ++ [x]) (L.length + 1) = ((L.length : Int) + 1, (st + (psL L L.length + x)) % 100) := by
    unfold rdM
    rw [psL_all]
    simp
  rw [List.map_singleton, h1]
  congr 1
  refine List.map_congr_left fun i hi => ?_
  have := List.mem_range.1 hi
  unfold rdM
  rw [psL_snoc L x (by omega)]
theorem metM_nil_r (st fe mo : Int) (h0 : 0 ≤ st) (h1 : st ≤ 99) : (metM st fe mo []).reads = [(0, st)] := by
  show [rdM st [] 0] = _
  unfold rdM
  rw [psL_zero]
  have : (st + 0) % 100 = st := by omega
  rw [this]
  rfl
section
variable {st fe mo : Int} {L : List Int} (hs0 : 0 ≤ st) (hs1 : st ≤ 99) (hf : 0 ≤ fe) (hm : 0 ≤ mo) (hfm : fe + mo ≤ 4) (hl : L.length ≤ 3) (hb : ∀ x ∈ L, 0 ≤ x ∧ x ≤ 12)
include hs0 hs1 hf hm hfm hl hb
theorem metM_valid : ValidM (metM st fe mo L) := by
  have _ := And.intro hs0 hs1
  refine ⟨by simp [metM]; omega, by simp [metM]; omega, Int.le_refl _, by show (0 : Int) ≤ 7; omega, fun x hx => ?_, fun r hr => ?_⟩
  · obtain ⟨n, hn, rfl⟩ := List.mem_map.1 hx
    have := hb n hn
    unfold wkM
    simp only
    omega
  · obtain ⟨i, hi, rfl⟩ := List.mem_map.1 hr
    have hi' := List.mem_range.1 hi
    unfold rdM
    simp only [metM, List.length_map]
    omega
theorem metM_tru {D : Nat → Int} (h : Tru (metM st fe mo L) D) : ∀ i, i ≤ L.length → D i - D 0 = psL L i ∧ D i % 100 = (st + psL L i) % 100 := by
  have _ := And.intro hs0 (And.intro hs1 hl)
  obtain ⟨h1, h2⟩ := h
  have h3 : wIn (metM st fe mo L).reads D (fun _ => true) = 0 := by
    have h2' : (wIn (metM st fe mo L).reads D (fun _ => true) : Int) ≤ 0 := h2
    omega
  have hr : ∀ i, i ≤ L.length → D i % 100 = (st + psL L i) % 100 := by
    intro i hi
    unfold wIn at h3
    rw [List.countP_eq_zero] at h3
    have := h3 (rdM st L i) (List.mem_map.2 ⟨i, List.mem_range.2 (by omega), rfl⟩)
    have h5 : D (rdM st L i).1.toNat % 100 = (rdM st L i).2 := Classical.byContradiction fun hne => this (by simp [hne])
    exact h5
  intro i
  induction i with
  | zero => intro hi; exact ⟨by rw [psL_zero]; omega, hr 0 hi⟩
  | succ i ih =>
    intro hi
    have hi' : i < L.length := by omega
    obtain ⟨e1, e2⟩ := ih (by omega)
    have e3 := hr (i + 1) hi
    have hx := hb _ (List.getElem_mem hi')
    have hg := h1 i (Nat.zero_le _) (by simp [metM]; omega)
    have hlo : lowM (metM st fe mo L) i = max 0 (L[i] - fe) ∧ highM (metM st fe mo L) i = L[i] + mo := by
      unfold lowM highM
      simp [metM, wkM, hi', List.getD_eq_getElem?_getD]
    rw [hlo.1, hlo.2] at hg
    rw [psL_succ hi'] at e3 ⊢
    refine ⟨?_, e3⟩
    generalize L[i] = n at *
    generalize psL L i = s at *
    generalize D (i + 1) = d1 at *
    generalize D i = d at *
    generalize D 0 = d0 at *
    have hlo2 : n - fe ≤ max 0 (n - fe) := Int.le_max_right _ _
    omega
theorem metM_ex : Tru (metM st fe mo L) (fun i => st + psL L i) := by
  have _ := And.intro hs0 (And.intro hs1 hl)
  refine ⟨fun i h0 h1 => ?_, ?_⟩
  · have hi' : i < L.length := by simpa [metM] using h1
    have hx := hb _ (List.getElem_mem hi')
    have hlo : lowM (metM st fe mo L) i = max 0 (L[i] - fe) ∧ highM (metM st fe mo L) i = L[i] + mo := by
      unfold lowM highM
      simp [metM, wkM, hi', List.getD_eq_getElem?_getD]
    rw [hlo.1, hlo.2]
    show max 0 (L[i] - fe) ≤ (st + psL L (i + 1)) - (st + psL L i) ∧ (st + psL L (i + 1)) - (st + psL L i) ≤ L[i] + mo
    rw [psL_succ hi']
    omega
  · show ((wIn (metM st fe mo L).reads (fun i => st + psL L i) (fun _ => true) : Nat) : Int) ≤ 0
    have : wIn (metM st fe mo L).reads (fun i => st + psL L i) (fun _ => true) = 0 := by
      unfold wIn
      rw [List.countP_eq_zero]
      intro r hr
      obtain ⟨i, hi, rfl⟩ := List.mem_map.1 hr
      simp [rdM]
    omega
theorem metM_ask : askV (metM st fe mo L) true = 0 := (askV_iff (metM_valid hs0 hs1 hf hm hfm hl hb)).2 ⟨_, metM_ex hs0 hs1 hf hm hfm hl hb⟩
theorem metM_sums : sumsA (metM st fe mo L) 0 L.length = [psL L L.length] ∧ askV (metM st fe mo L) (areB 0 L.length (metM st fe mo L).weeks.length) = 0 := by
  have hv := metM_valid hs0 hs1 hf hm hfm hl hb
  have hz := metM_ask hs0 hs1 hf hm hfm hl hb
  have hB : areB 0 L.length (metM st fe mo L).weeks.length = true := areB_iff.2 ⟨Int.le_refl _, by omega, by simp [metM]⟩
  refine ⟨one_of ?_ fun y => ?_, by rw [hB]; exact hz⟩
  · rw [(sumsA_list hv hB hz).1]
    exact List.pairwise_map.2 ((bitsN_rises _).imp fun h => by omega)
  · rw [sumsA_mem hv hB hz]
    show PlaysP _ 0 L.length y ↔ _
    constructor
    · rintro ⟨D, hD, rfl⟩
      exact (metM_tru hs0 hs1 hf hm hfm hl hb hD L.length (Nat.le_refl _)).1
    · rintro rfl
      exact ⟨_, metM_ex hs0 hs1 hf hm hfm hl hb, by simp only [psL_zero]; omega⟩
theorem metM_shows : showsA (metM st fe mo L) L.length = [(st + psL L L.length) % 100] ∧ askV (metM st fe mo L) (isAf L.length (metM st fe mo L).weeks.length) = 0 := by
  have hv := metM_valid hs0 hs1 hf hm hfm hl hb
  have hz := metM_ask hs0 hs1 hf hm hfm hl hb
  have hB : isAf L.length (metM st fe mo L).weeks.length = true := isAf_iff.2 ⟨by omega, by simp [metM]⟩
  refine ⟨one_of ?_ fun y => ?_, by rw [hB]; exact hz⟩
  · rw [(showsA_list hv hB hz).1]
    refine List.pairwise_map.2 (List.Pairwise.imp (fun h => by omega) (List.Pairwise.filter _ List.pairwise_lt_range))
  · rw [showsA_mem hv hB hz]
    show ShownP _ L.length y ↔ _
    constructor
    · rintro ⟨D, hD, rfl⟩
      exact (metM_tru hs0 hs1 hf hm hfm hl hb hD L.length (Nat.le_refl _)).2
    · rintro rfl
      exact ⟨_, metM_ex hs0 hs1 hf hm hfm hl hb, rfl⟩
theorem metM_rounds : roundLo (metM st fe mo L) = (st + psL L L.length) / 100 ∧ roundHi (metM st fe mo L) = (st + psL L L.length) / 100 := by
  have hv := metM_valid hs0 hs1 hf hm hfm hl hb
  have hz := metM_ask hs0 hs1 hf hm hfm hl hb
  have h := roundA_span hv hz
  have key : ∀ x, RoundsP (metM st fe mo L) x → x = (st + psL L L.length) / 100 := by
    rintro x ⟨D, hD, rfl⟩
    have h0 := (metM_tru hs0 hs1 hf hm hfm hl hb hD 0 (Nat.zero_le _)).2
    have h1 := (metM_tru hs0 hs1 hf hm hfm hl hb hD L.length (Nat.le_refl _)).1
    have hlen : (metM st fe mo L).weeks.length = L.length := by simp [metM]
    unfold rd
    rw [hlen, h1, h0, psL_zero]
    have : (st + 0) % 100 = st := by omega
    rw [this]
  exact ⟨key _ h.1, key _ h.2.1⟩
theorem metM_week {i : Nat} (hi : i < L.length) : weekLo (metM st fe mo L) i = L[i] ∧ weekHi (metM st fe mo L) i = L[i] ∧ askV (metM st fe mo L) (isWkB i (metM st fe mo L).weeks.length) = 0 := by
  have hv := metM_valid hs0 hs1 hf hm hfm hl hb
  have hz := metM_ask hs0 hs1 hf hm hfm hl hb
  have hlen : (metM st fe mo L).weeks.length = L.length := by simp [metM]
  have h := weekA_span hv (by rw [hlen]; exact hi) hz
  have key : ∀ x, PlaysP (metM st fe mo L) i (i + 1) x → x = L[i] := by
    rintro x ⟨D, hD, rfl⟩
    have h0 := (metM_tru hs0 hs1 hf hm hfm hl hb hD i (by omega)).1
    have h1 := (metM_tru hs0 hs1 hf hm hfm hl hb hD (i + 1) (by omega)).1
    rw [psL_succ hi] at h1
    omega
  refine ⟨key _ h.1, key _ h.2.1, ?_⟩
  rw [isWkB_iff.2 ⟨by omega, by rw [hlen]; omega⟩]
  exact hz
end
end Go.Proofs.YtppncdbhebgcaaaDoor
