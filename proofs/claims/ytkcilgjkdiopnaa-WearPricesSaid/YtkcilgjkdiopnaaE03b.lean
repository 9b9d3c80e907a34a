/- What becomes of a box: plain definitions. -/
import Derived.Test.YtkcilgjkdiopnaaW3d
import Derived.Test.YtkcilgjkdiopnaaRn2
namespace Go.Proofs.Ytkcilgjkdiopnaa
open Go.RowKit

/-- by how much a play wears a record, if the needle has done so many -/
def roughI (X : Wr) (a : Int) : Nat := (min (a / X.step) ((X.rough.length : Int) - 1)).toNat
def roughW (X : Wr) (a : Int) : Int := X.rough.getD (roughI X a) 0
/-- by how much n plays wear a record -/
def grindW (X : Wr) (a : Int) : Nat → Int
  | 0 => 0
  | n + 1 => grindW X a n + roughW X (a + n)
def noRec : Rec := ⟨0, 0, 0, []⟩
def recW (X : Wr) (i : Nat) : Rec := X.recs.getD i noRec
/-- how often record i is played in a week -/
def playsW (X : Wr) (wk i : Nat) : Int := (recW X i).plays.getD wk 0
def updI (f : Nat → Int) (k : Nat) (s : Int) : Nat → Int := fun j => if j = k then s else f j

structure St where
  worn : Nat → Int
  age : Int
  cost : Int

def startW (X : Wr) : St := ⟨fun i => (recW X i).worn, X.age, 0⟩
def newW (X : Wr) (p : Wk) (s : St) : St := if p.needle = 1 then ⟨s.worn, 0, s.cost + X.price⟩ else s
def repW (X : Wr) (s : St) (n : Int) : St := ⟨updI s.worn n.toNat 0, s.age, s.cost + (recW X n.toNat).price⟩
def playW (X : Wr) (wk : Nat) (s : St) (i : Nat) : St := ⟨updI s.worn i (s.worn i + grindW X s.age (playsW X wk i).toNat), s.age + playsW X wk i, s.cost⟩
def playsTo (X : Wr) (wk : Nat) (s : St) (n : Nat) : St := (List.range n).foldl (playW X wk) s
def weekW (X : Wr) (s : St) (wk : Nat) (p : Wk) : St := playsTo X wk (p.recs.foldl (repW X) (newW X p s)) X.recs.length
def wkAt (l : List Wk) (k : Nat) : Wk := l.getD k ⟨0, []⟩
def runTo (X : Wr) (l : List Wk) : Nat → St
  | 0 => startW X
  | k + 1 => weekW X (runTo X l k) k (wkAt l k)

theorem playsTo_succ (X : Wr) (wk : Nat) (s : St) (n : Nat) : playsTo X wk s (n + 1) = playW X wk (playsTo X wk s n) n := by
  unfold playsTo; rw [List.range_succ, List.foldl_append]; rfl

/-! bounds -/
theorem recW_eq {X : Wr} {i : Nat} (h : i < X.recs.length) : recW X i = X.recs[i] := by simp [recW, List.getD, h]
theorem roughI_lt {X : Wr} (hX : ValidW X) {a : Int} (ha : 0 ≤ a) : roughI X a < X.rough.length := by
  have h1 := hX.rough
  have h2 := hX.step
  have h3 : 0 ≤ a / X.step := Int.ediv_nonneg ha (by omega)
  unfold roughI
  omega
theorem roughW_eq {X : Wr} (hX : ValidW X) {a : Int} (ha : 0 ≤ a) : roughW X a = X.rough[roughI X a]'(roughI_lt hX ha) := by
  simp [roughW, List.getD, roughI_lt hX ha]
theorem roughW_bd {X : Wr} (hX : ValidW X) {a : Int} (ha : 0 ≤ a) : 0 ≤ roughW X a ∧ roughW X a ≤ 99 := by
  rw [roughW_eq hX ha]; exact hX.rg _ _
theorem grindW_bd {X : Wr} (hX : ValidW X) {a : Int} (ha : 0 ≤ a) : ∀ n : Nat, 0 ≤ grindW X a n ∧ grindW X a n ≤ 99 * n
  | 0 => by simp [grindW]
  | n + 1 => by
    have := grindW_bd hX ha n
    have := roughW_bd hX (a := a + n) (by omega)
    simp only [grindW]
    omega
theorem playsW_bd {X : Wr} (hX : ValidW X) (wk i : Nat) : 0 ≤ playsW X wk i ∧ playsW X wk i ≤ 99 := by
  unfold playsW
  by_cases h : i < X.recs.length
  · rw [recW_eq h]
    by_cases hk : wk < X.recs[i].plays.length
    · have := (hX.rc i h).play wk hk
      simpa [List.getD, hk] using this
    · simp [List.getD, List.getElem?_eq_none (by omega : X.recs[i].plays.length ≤ wk)]
  · have : recW X i = noRec := by simp [recW, List.getD, List.getElem?_eq_none (by omega : X.recs.length ≤ i)]
    rw [this]
    simp [noRec]
theorem plays_eq {X : Wr} (hX : ValidW X) {wk i : Nat} (hi : i < X.recs.length) (hk : (wk : Int) < X.weeks) : ∃ h : wk < X.recs[i].plays.length, playsW X wk i = X.recs[i].plays[wk] := by
  have := (hX.rc i hi).len
  have hk' : wk < X.recs[i].plays.length := by omega
  refine ⟨hk', ?_⟩
  unfold playsW
  rw [recW_eq hi]
  simp [List.getD, hk']

/-- a state whose numbers are small -/
structure StOK (A C V : Int) (s : St) : Prop where
  age : 0 ≤ s.age ∧ s.age ≤ A
  cost : 0 ≤ s.cost ∧ s.cost ≤ C
  worn : ∀ i, 0 ≤ s.worn i ∧ s.worn i ≤ V
theorem StOK.mono {A C V A' C' V' : Int} {s : St} (h : StOK A C V s) (h1 : A ≤ A') (h2 : C ≤ C') (h3 : V ≤ V') : StOK A' C' V' s :=
  ⟨⟨h.age.1, by have := h.age.2; omega⟩, ⟨h.cost.1, by have := h.cost.2; omega⟩, fun i => ⟨(h.worn i).1, by have := (h.worn i).2; omega⟩⟩
theorem rec_bd {X : Wr} (hX : ValidW X) (i : Nat) : 0 ≤ (recW X i).price ∧ (recW X i).price ≤ 999 ∧ 0 ≤ (recW X i).worn ∧ (recW X i).worn ≤ 99999 := by
  by_cases h : i < X.recs.length
  · rw [recW_eq h]
    exact ⟨(hX.rc i h).price.1, (hX.rc i h).price.2, (hX.rc i h).worn.1, (hX.rc i h).worn.2⟩
  · have : recW X i = noRec := by simp [recW, List.getD, List.getElem?_eq_none (by omega : X.recs.length ≤ i)]
    rw [this]
    simp [noRec]
theorem start_ok {X : Wr} (hX : ValidW X) : StOK 9999 0 99999 (startW X) := ⟨hX.age, ⟨by simp [startW], by simp [startW]⟩, fun i => (rec_bd hX i).2.2⟩
theorem new_ok {X : Wr} (hX : ValidW X) {A C V : Int} {s : St} (p : Wk) (h : StOK A C V s) : StOK A (C + 999) V (newW X p s) := by
  have hp := hX.price
  have h1 := h.age
  have h2 := h.cost
  unfold newW
  split
  · exact ⟨⟨by simp, by simp only; omega⟩, ⟨by simp only; omega, by simp only; omega⟩, h.worn⟩
  · exact h.mono (by omega) (by omega) (by omega)
theorem rep_ok {X : Wr} (hX : ValidW X) {A C V : Int} {s : St} (n : Int) (h : StOK A C V s) : StOK A (C + 999) V (repW X s n) := by
  have hp := rec_bd hX n.toNat
  have h2 := h.cost
  refine ⟨h.age, ⟨by simp only [repW]; omega, by simp only [repW]; omega⟩, fun i => ?_⟩
  have := h.worn i
  simp only [repW, updI]
  split <;> omega
theorem play_ok {X : Wr} (hX : ValidW X) {A C V : Int} {s : St} (wk i : Nat) (h : StOK A C V s) : StOK (A + 99) C (V + 9801) (playW X wk s i) := by
  have h1 := h.age
  have hp := playsW_bd hX wk i
  have hg := grindW_bd hX h1.1 (playsW X wk i).toNat
  refine ⟨⟨by simp only [playW]; omega, by simp only [playW]; omega⟩, h.cost, fun j => ?_⟩
  have := h.worn j
  have := h.worn i
  simp only [playW, updI]
  split <;> omega
theorem reps_ok {X : Wr} (hX : ValidW X) {A C V : Int} : ∀ (l : List Int) {s : St}, StOK A C V s → StOK A (C + 999 * l.length) V (l.foldl (repW X) s) := by
  intro l
  induction l generalizing C with
  | nil => intro s h; exact h.mono (by omega) (by simp) (by omega)
  | cons n r ih => intro s h; exact (ih (rep_ok hX n h)).mono (by omega) (by simp only [List.length_cons]; omega) (by omega)
theorem playsTo_ok {X : Wr} (hX : ValidW X) {A C V : Int} {s : St} (wk : Nat) (h : StOK A C V s) : ∀ n : Nat, StOK (A + 99 * n) C (V + 9801 * n) (playsTo X wk s n)
  | 0 => h.mono (by omega) (by omega) (by omega)
  | n + 1 => by
    rw [playsTo_succ]
    exact (play_ok hX wk n (playsTo_ok hX wk h n)).mono (by omega) (by omega) (by omega)

theorem Rises.len {l : List Int} {n : Nat} (h : Rises l 0 ((n : Int) - 1)) : l.length ≤ n := by
  have key : ∀ i (hi : i < l.length), (i : Int) ≤ l[i] := by
    intro i
    induction i with
    | zero => intro hi; exact (h.1 0 hi).1
    | succ i ih =>
      intro hi
      have h1 := ih (by omega)
      have h2 := h.2 i hi
      omega
  by_cases h0 : l.length = 0
  · omega
  · have h1 := key (l.length - 1) (by omega)
    have h2 := (h.1 (l.length - 1) (by omega)).2
    omega
theorem wkAt_eq {l : List Wk} {k : Nat} (h : k < l.length) : wkAt l k = l[k] := by simp [wkAt, List.getD, h]
theorem runTo_ok {X : Wr} (hX : ValidW X) {l : List Wk} (hl : PlanOK X l) : ∀ k : Nat, k ≤ l.length → StOK (9999 + 396 * k) (4995 * k) (99999 + 39204 * k) (runTo X l k)
  | 0, _ => (start_ok hX).mono (by omega) (by omega) (by omega)
  | k + 1, h => by
    have h4 := hX.recs
    have hr := (hl.2 _ (List.getElem_mem (by omega : k < l.length))).1.len
    show StOK _ _ _ (weekW X (runTo X l k) k (wkAt l k))
    rw [wkAt_eq (by omega)]
    exact (playsTo_ok hX k (reps_ok hX _ (new_ok hX l[k] (runTo_ok hX hl k (by omega)))) X.recs.length).mono (by omega) (by omega) (by omega)
end Go.Proofs.Ytkcilgjkdiopnaa
