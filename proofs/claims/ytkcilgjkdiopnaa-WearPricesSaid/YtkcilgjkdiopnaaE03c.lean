/- When records and needles are replaced: plain definitions of the choices. -/
import Derived.Test.YtkcilgjkdiopnaaE03b
namespace Go.Proofs.Ytkcilgjkdiopnaa
open Go.RowKit

/-- how many bits a small set has -/
def popc (s : Nat) : Nat := ((List.range 6).filter s.testBit).length
theorem popc_le (s : Nat) : popc s ≤ 6 := Nat.le_trans (List.length_filter_le _ _) (by simp)

structure Ch where
  needles : Nat
  records : List Nat

/-- the age of the needle in a week that it begins with age a, when record i is to be played -/
def ageTo (X : Wr) (wk : Nat) (a : Int) : Nat → Int
  | 0 => a
  | i + 1 => ageTo X wk a i + playsW X wk i
def ageB (X : Wr) (N : Nat) : Nat → Int
  | 0 => X.age
  | k + 1 => ageTo X k (if N.testBit k then 0 else ageB X N k) X.recs.length
def begA (X : Wr) (N k : Nat) : Int := if N.testBit k then 0 else ageB X N k
/-- by how much record i is worn in week k, if needles are replaced in the weeks N -/
def grd (X : Wr) (N k i : Nat) : Int := grindW X (ageTo X k (begA X N k) i) (playsW X k i).toNat

/-- a record replaced as late as it can be -/
def lateTo (lim w0 : Int) (g : Nat → Int) : Nat → Option (Int × Nat)
  | 0 => some (w0, 0)
  | k + 1 => match lateTo lim w0 g k with
    | none => none
    | some (w, x) => if lim < g k then none else if lim < w + g k then some (g k, x ||| 2 ^ k) else some (w + g k, x)
def lateW (lim w0 : Int) (g : Nat → Int) (n : Nat) : Option Nat := (lateTo lim w0 g n).map (·.2)
def recsTo (X : Wr) (N long : Nat) : Nat → Option (List Nat)
  | 0 => some []
  | i + 1 => match recsTo X N long i, lateW (recW X i).limit (recW X i).worn (fun k => grd X N k i) long with
    | some l, some x => some (l ++ [x])
    | _, _ => none
def chooseW (X : Wr) (N long : Nat) : Option Ch := (recsTo X N long X.recs.length).map (Ch.mk N)
def choicesW (X : Wr) (long : Nat) : List Ch := (List.range (2 ^ long)).filterMap fun N => chooseW X N long
def costTo (X : Wr) (c : Ch) : Nat → Int
  | 0 => 0
  | i + 1 => costTo X c i + popc (c.records.getD i 0) * (recW X i).price
def allW (X : Wr) (c : Ch) (price : Int) : Int := costTo X c c.records.length + popc c.needles * price
def leastS (f : Ch → Int) (b : Option Ch) (c : Ch) : Option Ch := match b with
  | none => some c
  | some b => if f c < f b then some c else some b
def leastL (f : Ch → Int) (l : List Ch) : Option Ch := l.foldl (leastS f) none
theorem leastL_snoc (f : Ch → Int) (l : List Ch) (c : Ch) : leastL f (l ++ [c]) = leastS f (leastL f l) c := by simp [leastL]

/-! in memory -/
def MaskR (_ : World) (v : Value) (n : Nat) : Prop := v = .int .u64 n
theorem MaskR.mono : Mono MaskR := fun _ _ _ _ _ h => h
def MasksAt (w : World) (p : Option Addr) (l : List Nat) : Prop := SlAt MaskR w p l
theorem MasksAt.ext {w w' : World} {p : Option Addr} {l : List Nat} (h : MasksAt w p l) (hE : Ext w w') : MasksAt w' p l := SlAt.ext MaskR.mono h hE
theorem MasksAt.at {w : World} {p : Option Addr} {l : List Nat} (h : MasksAt w p l) (i : Nat) (hi : i < l.length) : ∃ b o, p = some ⟨b, o, none⟩ ∧ w.cell? ⟨b, o + i, none⟩ = some (.int .u64 l[i]) := by
  obtain ⟨b, o, v, hp, hc, rfl⟩ := h i hi
  exact ⟨b, o, hp, hc⟩
def ChV (w : World) (v : Value) (c : Ch) : Prop := ∃ p cap, v = .agg #[.int .u64 c.needles, .slice p c.records.length cap] ∧ MasksAt w p c.records
theorem ChV.mono : Mono ChV := by
  rintro w w' v c hE ⟨p, cap, rfl, h⟩
  exact ⟨p, cap, rfl, h.ext hE⟩
/-- choices in a slice, two cells each -/
def ChsAt (w : World) (p : Option Addr) (l : List Ch) : Prop :=
  ∀ i (h : i < l.length), ∃ b o q c, p = some ⟨b, o, none⟩ ∧ w.cell? ⟨b, o + i * 2, none⟩ = some (.int .u64 l[i].needles) ∧ w.cell? ⟨b, o + i * 2 + 1, none⟩ = some (.slice q l[i].records.length c) ∧ MasksAt w q l[i].records
theorem ChsAt.ext {w w' : World} {p : Option Addr} {l : List Ch} (h : ChsAt w p l) (hE : Ext w w') : ChsAt w' p l := by
  intro i hi
  obtain ⟨b, o, q, c, hp, h1, h2, h3⟩ := h i hi
  exact ⟨b, o, q, c, hp, hE.cell h1, hE.cell h2, h3.ext hE⟩

/-! bounds -/
theorem ageTo_bd {X : Wr} (hX : ValidW X) (wk : Nat) {a A : Int} (ha : 0 ≤ a ∧ a ≤ A) : ∀ i : Nat, 0 ≤ ageTo X wk a i ∧ ageTo X wk a i ≤ A + 99 * i
  | 0 => by simp only [ageTo]; omega
  | i + 1 => by
    have := ageTo_bd hX wk ha i
    have := playsW_bd hX wk i
    simp only [ageTo]
    omega
theorem ageB_bd {X : Wr} (hX : ValidW X) (N : Nat) : ∀ k : Nat, 0 ≤ ageB X N k ∧ ageB X N k ≤ 9999 + 396 * k
  | 0 => by have := hX.age; simp only [ageB]; omega
  | k + 1 => by
    have h1 := ageB_bd hX N k
    have h4 := hX.recs
    have : 0 ≤ (if N.testBit k then 0 else ageB X N k) ∧ (if N.testBit k then 0 else ageB X N k) ≤ 9999 + 396 * k := by split <;> omega
    have := ageTo_bd hX k this X.recs.length
    simp only [ageB]
    omega
theorem begA_bd {X : Wr} (hX : ValidW X) (N k : Nat) : 0 ≤ begA X N k ∧ begA X N k ≤ 9999 + 396 * k := by
  have := ageB_bd hX N k
  unfold begA
  split <;> omega
theorem grd_bd {X : Wr} (hX : ValidW X) (N k i : Nat) : 0 ≤ grd X N k i ∧ grd X N k i ≤ 9801 := by
  have h1 := (ageTo_bd hX k (begA_bd hX N k) i).1
  have h2 := playsW_bd hX k i
  have h3 := grindW_bd hX h1 (playsW X k i).toNat
  unfold grd
  omega
theorem lateTo_bd {lim w0 : Int} {g : Nat → Int} (h0 : 0 ≤ w0 ∧ w0 ≤ 99999) (hg : ∀ k, 0 ≤ g k ∧ g k ≤ 9801) : ∀ k w x, lateTo lim w0 g k = some (w, x) → 0 ≤ w ∧ w ≤ 99999 + 9801 * k ∧ x < 2 ^ k
  | 0, w, x, h => by
    simp only [lateTo, Option.some.injEq, Prod.mk.injEq] at h
    obtain ⟨rfl, rfl⟩ := h
    exact ⟨h0.1, by omega, by simp⟩
  | k + 1, w, x, h => by
    simp only [lateTo] at h
    cases hl : lateTo lim w0 g k with
    | none => simp [hl] at h
    | some p =>
      obtain ⟨w1, x1⟩ := p
      obtain ⟨b1, b2, b3⟩ := lateTo_bd h0 hg k w1 x1 hl
      have hgk := hg k
      simp only [hl] at h
      have hp : 2 ^ (k + 1) = 2 ^ k + 2 ^ k := by rw [Nat.pow_succ]; omega
      split at h
      · cases h
      · split at h
        · simp only [Option.some.injEq, Prod.mk.injEq] at h
          obtain ⟨rfl, rfl⟩ := h
          exact ⟨hgk.1, by omega, Nat.or_lt_two_pow (by omega) (by omega)⟩
        · simp only [Option.some.injEq, Prod.mk.injEq] at h
          obtain ⟨rfl, rfl⟩ := h
          exact ⟨by omega, by omega, by omega⟩
theorem recsTo_len {X : Wr} {N long : Nat} : ∀ i l, recsTo X N long i = some l → l.length = i
  | 0, l, h => by simp only [recsTo, Option.some.injEq] at h; subst h; rfl
  | i + 1, l, h => by
    simp only [recsTo] at h
    split at h
    · next l' x h1 h2 =>
      simp only [Option.some.injEq] at h
      subst h
      simp [recsTo_len i l' h1]
    · cases h
theorem recsTo_lt {X : Wr} (hX : ValidW X) {N long : Nat} : ∀ i l, recsTo X N long i = some l → ∀ m ∈ l, m < 2 ^ long
  | 0, l, h => by simp only [recsTo, Option.some.injEq] at h; subst h; intro m hm; simp at hm
  | i + 1, l, h => by
    simp only [recsTo] at h
    split at h
    · next l' x h1 h2 =>
      simp only [Option.some.injEq] at h
      subst h
      intro m hm
      rcases List.mem_append.1 hm with hm | hm
      · exact recsTo_lt hX i l' h1 m hm
      · rw [List.mem_singleton.1 hm]
        unfold lateW at h2
        cases hl : lateTo (recW X i).limit (recW X i).worn (fun k => grd X N k i) long with
        | none => simp [hl] at h2
        | some p =>
          simp only [hl, Option.map_some, Option.some.injEq] at h2
          rw [← h2]
          exact (lateTo_bd (rec_bd hX i).2.2 (fun k => grd_bd hX N k i) long p.1 p.2 hl).2.2
    · cases h
/-- a choice of a valid box -/
structure ChOK (X : Wr) (c : Ch) : Prop where
  needles : c.needles < 64
  len : c.records.length = X.recs.length
  recs : ∀ i (h : i < c.records.length), c.records[i] < 64
theorem chooseW_ok {X : Wr} (hX : ValidW X) {N long : Nat} (hl : long ≤ 6) (hN : N < 2 ^ long) {c : Ch} (h : chooseW X N long = some c) : ChOK X c ∧ c.needles = N := by
  have h64 : 2 ^ long ≤ 64 := Nat.pow_le_pow_right (n := 2) (by decide) hl
  unfold chooseW at h
  cases hr : recsTo X N long X.recs.length with
  | none => simp [hr] at h
  | some l =>
    simp only [hr, Option.map_some, Option.some.injEq] at h
    subst h
    exact ⟨⟨(by show N < 64; omega), recsTo_len _ _ hr, fun i hi => Nat.lt_of_lt_of_le (recsTo_lt hX _ _ hr _ (List.getElem_mem hi)) h64⟩, rfl⟩
theorem choices_ok {X : Wr} (hX : ValidW X) {long : Nat} (hl : long ≤ 6) {c : Ch} (h : c ∈ choicesW X long) : ChOK X c := by
  obtain ⟨N, hN, hc⟩ := List.mem_filterMap.1 h
  exact (chooseW_ok hX hl (List.mem_range.1 hN) hc).1
theorem costTo_bd {X : Wr} (hX : ValidW X) (c : Ch) : ∀ n : Nat, 0 ≤ costTo X c n ∧ costTo X c n ≤ 5994 * n
  | 0 => by simp [costTo]
  | n + 1 => by
    have h1 := costTo_bd hX c n
    have h2 := rec_bd hX n
    have h3 := popc_le (c.records.getD n 0)
    have h4 : (0 : Int) ≤ (popc (c.records.getD n 0) : Int) * (recW X n).price := Int.mul_nonneg (by omega) h2.1
    have h5 : (popc (c.records.getD n 0) : Int) * (recW X n).price ≤ 6 * 999 := Int.mul_le_mul (by omega) h2.2.1 h2.1 (by decide)
    simp only [costTo]
    omega
theorem allW_bd {X : Wr} (hX : ValidW X) {c : Ch} (hc : ChOK X c) {price : Int} (hp : 0 ≤ price ∧ price ≤ 999) : 0 ≤ allW X c price ∧ allW X c price ≤ 30000 := by
  have h1 := costTo_bd hX c c.records.length
  have h2 := hc.len
  have h3 := hX.recs
  have h4 := popc_le c.needles
  have h5 : (0 : Int) ≤ (popc c.needles : Int) * price := Int.mul_nonneg (by omega) hp.1
  have h6 : (popc c.needles : Int) * price ≤ 6 * 999 := Int.mul_le_mul (by omega) hp.2 hp.1 (by decide)
  unfold allW
  omega
end Go.Proofs.Ytkcilgjkdiopnaa
