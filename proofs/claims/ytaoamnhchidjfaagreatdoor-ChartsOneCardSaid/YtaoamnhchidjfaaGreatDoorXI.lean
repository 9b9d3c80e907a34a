
/- What the chapter's examples answer. Calls from a boxed world whose answers are lists or spans; the walk of works. The answers of two meters whose truths are alike are the same. Lists of pairs, written one after another; the law functions' common steps. -/
import Derived.Test.YtaoamnhchidjfaaGreatDoorXH
import Derived.Test.YtaoamnhchidjfaaGreatDoorXJ
namespace Go.Proofs.YtaoamnhchidjfaaGreatDoor
open Go.RowKit

theorem valid_exM : ValidM exM := (okB_iff _).1 (by decide)
theorem valid_exN : ValidM exN := (okB_iff _).1 (by decide)
theorem valid_exO : ValidM exO := (okB_iff _).1 (by decide)
theorem least_exM : leastN exM = 0 := by decide +kernel
theorem least_exN : leastN exN = 1 := by decide +kernel
theorem least_exO : leastN exO = 1 := by decide +kernel
theorem ask_exM : askV exM true = 0 := by rw [askV_t valid_exM, least_exM]; rfl
theorem ask_exO : askV exO true = 0 := by rw [askV_t valid_exO, least_exO]; rfl

theorem tru_exO {D : Nat → Int} : Tru exO D ↔ (0 ≤ D 1 - D 0 ∧ D 1 - D 0 ≤ 150 ∧ 20 ≤ D 2 - D 1 ∧ D 2 - D 1 ≤ 30) ∧ D 0 % 100 = 95 ∧ D 1 % 100 = 10 ∧ (D 2 % 100 = 35 ∨ D 2 % 100 = 40) := by
  have hw : Wd exO D = (if D 0 % 100 = 95 then 0 else 1) + (if D 1 % 100 = 10 then 0 else 1) + (if D 2 % 100 = 35 then 0 else 1) + (if D 2 % 100 = 40 then 0 else 1) := by
    unfold Wd wIn exO
    simp only [List.countP_cons, List.countP_nil]
    simp
    omega
  constructor
  · rintro ⟨h1, h2⟩
    have e0 := h1 0 (by decide) (by decide)
    have e1 := h1 1 (by decide) (by decide)
    have h2' : (Wd exO D : Int) ≤ 1 := h2
    rw [hw] at h2'
    have e0' : 0 ≤ D 1 - D 0 ∧ D 1 - D 0 ≤ 150 := e0
    have e1' : 20 ≤ D 2 - D 1 ∧ D 2 - D 1 ≤ 30 := e1
    refine ⟨⟨e0'.1, e0'.2, e1'.1, e1'.2⟩, ?_⟩
    split at h2' <;> split at h2' <;> split at h2' <;> split at h2' <;> omega
  · rintro ⟨⟨h1, h2, h3, h4⟩, h5, h6, h7⟩
    refine ⟨fun i _ hi => ?_, ?_⟩
    · match i, hi with
      | 0, _ => exact ⟨h1, h2⟩
      | 1, _ => exact ⟨h3, h4⟩
    · show (Wd exO D : Int) ≤ 1
      rw [hw, if_pos h5, if_pos h6]
      rcases h7 with h7 | h7
      · rw [if_pos h7]; split <;> omega
      · rw [if_pos h7]; split <;> omega

theorem count_exO2 (s : Nat) (hs : s < 100) : countN exO 2 s ≤ 2 := by
  unfold countN
  have hr := bitsN_rises (totalsN exO 2 (s : Int))
  have hm : ∀ n ∈ bitsN (totalsN exO 2 (s : Int)), n % 100 = (s + 5) % 100 ∧ n < 200 := by
    intro n hn
    obtain ⟨D, h1, h2, h3⟩ := (totals_law valid_exO (by omega) (by omega) (by decide)).1 (mem_bitsN.1 hn).2
    have h4 := tru_exO.1 h1
    have h3' : D 2 - D 0 = (n : Int) := h3
    omega
  revert hr hm
  generalize bitsN (totalsN exO 2 (s : Int)) = l
  intro hr hm
  match l, hr, hm with
  | [], _, _ => simp
  | [_], _, _ => simp
  | [_, _], _, _ => simp
  | a :: b :: c :: t, hr, hm =>
    have h1 := hm a (by simp)
    have h2 := hm b (by simp)
    have h3 := hm c (by simp)
    simp only [List.pairwise_cons] at hr
    have h4 := hr.1 b (by simp)
    have h5 := hr.2.1 c (by simp)
    omega
theorem has_exO (a s : Nat) (x y : Nat) (hx : x = 15 ∨ x = 115) (hy : y = 25 ∨ y = 30) (ha : (a = 0 ∧ s = 95) ∨ (a = 1 ∧ s = 10)) : x + y ∈ bitsN (totalsN exO a (s : Int)) := by
  refine mem_bitsN.2 ⟨by omega, ?_⟩
  refine (totals_law valid_exO (by omega) (by omega) (show a ≤ 2 by omega)).2 ⟨fun i => if i = 0 then 95 else if i = 1 then 95 + (x : Int) else 95 + (x : Int) + y, ?_, ?_, ?_⟩
  · refine tru_exO.2 ?_
    simp
    omega
  · rcases ha with ⟨rfl, rfl⟩ | ⟨rfl, rfl⟩
    · simp
    · simp; omega
  · show (95 + (x : Int) + y) - 95 = ((x + y : Nat) : Int)
    omega
theorem count_exO (a s : Nat) (ha : (a = 0 ∧ s = 95) ∨ (a = 1 ∧ s = 10)) : 3 ≤ countN exO a s := by
  unfold countN
  have h1 := has_exO a s 15 25 (by simp) (by simp) ha
  have h2 := has_exO a s 15 30 (by simp) (by simp) ha
  have h3 := has_exO a s 115 25 (by simp) (by simp) ha
  revert h1 h2 h3
  generalize bitsN (totalsN exO a (s : Int)) = l
  intro h1 h2 h3
  match l, h1, h2, h3 with
  | [], h1, _, _ => simp at h1
  | [_], h1, h2, _ => simp at h1 h2; omega
  | [_, _], h1, h2, h3 => simp at h1 h2 h3; omega
  | a :: b :: c :: t, _, _, _ => simp
theorem step_ge {M : Mt} {o : Nat × Nat} {a : Nat} (h : 3 ≤ o.2) (h2 : 3 ≤ mostN M a) : 3 ≤ (nextStep M o a).2 := by
  unfold nextStep
  split
  · exact h2
  · exact h
theorem step_two {M : Mt} {o : Nat × Nat} {a : Nat} (h : 3 ≤ o.2) (h2 : mostN M a ≤ 2) : (nextStep M o a).1 = a := by
  unfold nextStep
  rw [if_pos (by omega)]
theorem next3 {M : Mt} (h : M.weeks.length = 2) (k0 : 3 ≤ mostN M 0) (k1 : 3 ≤ mostN M 1) (k2 : mostN M 2 ≤ 2) : nextN M = 2 := by
  unfold nextN
  have e : List.range (2 + 1) = [0, 1, 2] := by decide
  rw [h, e, List.foldl_cons, List.foldl_cons, List.foldl_cons, List.foldl_nil]
  exact step_two (step_ge (step_ge (by decide) k0) k1) k2
theorem next_exO : nextN exO = 2 := by
  have k2 : mostN exO 2 ≤ 2 := by
    rcases (foldmax (f := countN exO 2) (List.range 100) 0).2 with h | ⟨s, hs, h⟩
    · unfold mostN; rw [h]; omega
    · unfold mostN; rw [h]; exact count_exO2 s (List.mem_range.1 hs)
  have k0 : 3 ≤ mostN exO 0 := Nat.le_trans (count_exO 0 95 (by simp)) ((foldmax (f := countN exO 0) (List.range 100) 0).1.2 95 (List.mem_range.2 (by decide)))
  have k1 : 3 ≤ mostN exO 1 := Nat.le_trans (count_exO 1 10 (by simp)) ((foldmax (f := countN exO 1) (List.range 100) 0).1.2 10 (List.mem_range.2 (by decide)))
  exact next3 rfl k0 k1 k2
end Go.Proofs.YtaoamnhchidjfaaGreatDoor
namespace Go.Proofs.YtaoamnhchidjfaaGreatDoor
open Go.RowKit

theorem ExtW.callX {a : World} {P : Program} {f : FuncId} {args : Array Value} {v : Value} {x : ExtW a} (h : Calls P f args x.w (RetE v x.w)) :
    Calls P f args x.w fun e w'' => e = .returned v ∧ ∃ y : ExtW a, w'' = y.w ∧ Ext x.w y.w :=
  h.mono fun _ w'' ⟨he, hE⟩ => ⟨he, ⟨w'', x.h.trans hE⟩, rfl, hE⟩
theorem ExtW.callL {a : World} {P : Program} {f : FuncId} {args : Array Value} {l : List Int} {n : Int} {x : ExtW a} (h : Calls P f args x.w (RetL l n x.w)) :
    Calls P f args x.w fun e w'' => ∃ (p : Option Addr) (c : Nat), e = .returned (.tuple #[.slice p l.length c, .int .i64 n]) ∧ ∃ y : ExtW a, w'' = y.w ∧ Ext x.w y.w ∧ IntsAt y.w p l ∧ ∀ u, p = some u → x.w.heap.size ≤ u.block := by
  refine h.mono fun _ w'' ⟨v, he, hO, hE⟩ => ?_
  rcases hO.2 with ⟨rfl, h0⟩ | ⟨g, cap, cur, rfl, hB, -⟩
  · have : l = [] := List.length_eq_zero_iff.1 h0
    subst this
    exact ⟨none, 0, he, ⟨w'', x.h.trans hE⟩, rfl, hE, IntsAt.nil _ _, fun u hu => by cases hu⟩
  · exact ⟨_, _, he, ⟨w'', x.h.trans hE⟩, rfl, hE, row_ints hO, fun u hu => by cases hu; exact hB⟩
theorem IntsAt.fr {W W' : World} {q : Option Addr} {l : List Int} {E : Nat → Prop} (h : IntsAt W q l) (hF : Fr E W W') (hE : ∀ a, q = some a → ¬E a.block) : IntsAt W' q l := by
  intro i hi
  obtain ⟨b, o, v, hp, hc, hv⟩ := h i hi
  exact ⟨b, o, v, hp, hF.cell hc (hE _ hp), hv⟩

theorem weekV_exM : weekLo exM 0 = 15 ∧ weekHi exM 0 = 115 ∧ askV exM (isWkB 0 exM.weeks.length) = 0 := by
  have e : askV exM (isWkB 0 exM.weeks.length) = 0 := ask_exM
  have e2 : sumsL exM (0 : Int).toNat ((0 : Int).toNat + 1) = [15, 115] := sums_exM1
  unfold weekLo weekHi
  rw [e, okN_0 rfl, okN_0 rfl, e2]
  exact ⟨rfl, rfl, rfl⟩
theorem weekV_exO : weekLo exO 1 = 25 ∧ weekHi exO 1 = 30 ∧ askV exO (isWkB 1 exO.weeks.length) = 0 := by
  have e : askV exO (isWkB 1 exO.weeks.length) = 0 := ask_exO
  have e2 : sumsL exO (1 : Int).toNat ((1 : Int).toNat + 1) = sumsL exO 1 2 := rfl
  unfold weekLo weekHi
  rw [e, okN_0 rfl, okN_0 rfl, e2, sums_exO.1, sums_exO.2]
  exact ⟨rfl, rfl, rfl⟩
theorem sumsV_exM : okL (askV exM (areB 0 2 exM.weeks.length)) (bitsI (betTo exM (0 : Int).toNat (2 : Int).toNat 100)) = [40, 140] ∧ askV exM (areB 0 2 exM.weeks.length) = 0 := by
  have e : askV exM (areB 0 2 exM.weeks.length) = 0 := ask_exM
  have e2 : bitsI (betTo exM (0 : Int).toNat (2 : Int).toNat 100) = (sumsL exM 0 2).map fun t : Nat => (t : Int) := sumsL_bits valid_exM (show 0 ≤ 2 by decide) (by decide)
  rw [e, okL_0 rfl, e2, sums_exM2]
  exact ⟨rfl, rfl⟩
theorem nextV_exO : okN (askV exO true) (nextN exO : Nat) = 2 ∧ askV exO true = 0 := by
  rw [ask_exO, okN_0 rfl, next_exO]
  exact ⟨rfl, rfl⟩
end Go.Proofs.YtaoamnhchidjfaaGreatDoor
namespace Go.Proofs.YtaoamnhchidjfaaGreatDoor
open Go.RowKit

noncomputable def sumsA (M : Mt) (f t : Int) : List Int := okL (askV M (areB f t M.weeks.length)) (bitsI (betTo M f.toNat t.toNat 100))
noncomputable def showsA (M : Mt) (a : Int) : List Int := okL (askV M (isAf a M.weeks.length)) (pickTo (showF M a.toNat) 100)
noncomputable def nextA (M : Mt) : Int := okN (askV M true) (nextN M : Nat)
noncomputable def strangeA (M : Mt) : List Int := okL (askV M true) (pickTo (strangeF M) M.reads.length)
noncomputable def sureA (M : Mt) : List Int := okL (askV M true) (pickTo (sureF M) M.reads.length)
theorem areB_iff {f t n : Int} : areB f t n = true ↔ 0 ≤ f ∧ f ≤ t ∧ t ≤ n := by unfold areB; simp
theorem isAf_iff {a n : Int} : isAf a n = true ↔ 0 ≤ a ∧ a ≤ n := by unfold isAf; simp
theorem isWkB_iff {a n : Int} : isWkB a n = true ↔ 0 ≤ a ∧ a < n := by unfold isWkB; simp
theorem askV_false {M : Mt} (hM : ValidM M) : askV M false = 1 := by unfold askV; rw [if_pos hM, if_neg (by decide)]
theorem ask_known {M : Mt} (hM : ValidM M) : askV M true = 0 ∨ askV M true = 3 := by
  rw [askV_t hM]
  split
  · exact Or.inl rfl
  · exact Or.inr rfl
theorem okL_le {n : Int} {l : List Int} {k : Nat} (h : l.length ≤ k) : (okL n l).length ≤ k := by
  unfold okL
  split
  · exact h
  · exact Nat.zero_le _
theorem sumsA_len (M : Mt) (f t : Int) : (sumsA M f t).length ≤ 1536 := okL_le (bitsTo_len _ 1536)
theorem showsA_len (M : Mt) (a : Int) : (showsA M a).length ≤ 100 := okL_le (pickTo_len _ _)
theorem strangeA_len (M : Mt) : (strangeA M).length ≤ M.reads.length := okL_le (pickTo_len _ _)
theorem sureA_len (M : Mt) : (sureA M).length ≤ M.reads.length := okL_le (pickTo_len _ _)

section
variable {M N : Mt} {T U : (Nat → Int) → (Nat → Int)}
theorem Iso.few (h : Iso M N T U) (hM : ValidM M) (hN : ValidM N) : leastTo M 100 = leastTo N 100 := by rw [least_eq hM, least_eq hN, h.least hM hN]
theorem Iso.askB (h : Iso M N T U) (hM : ValidM M) (hN : ValidM N) (b : Bool) : askV M b = askV N b := by
  cases b
  · rw [askV_false hM, askV_false hN]
  · exact h.ask hM hN
theorem Iso.sumsA (h : Iso M N T U) (hM : ValidM M) (hN : ValidM N) {f t f' t' : Int} (hb : areB f t M.weeks.length = areB f' t' N.weeks.length)
    (h1 : areB f t M.weeks.length = true → (∀ D, T D t'.toNat - T D f'.toNat = D t.toNat - D f.toNat) ∧ ∀ E, U E t.toNat - U E f.toNat = E t'.toNat - E f'.toNat) :
    sumsA M f t = Go.Proofs.YtaoamnhchidjfaaGreatDoor.sumsA N f' t' ∧ askV M (areB f t M.weeks.length) = askV N (areB f' t' N.weeks.length) := by
  have ha : askV M (areB f t M.weeks.length) = askV N (areB f' t' N.weeks.length) := by rw [hb]; exact h.askB hM hN _
  refine ⟨?_, ha⟩
  unfold Go.Proofs.YtaoamnhchidjfaaGreatDoor.sumsA
  rw [ha]
  cases hB : areB f t M.weeks.length
  · rw [← hb, hB, askV_false hN, okL_ne (by decide), okL_ne (by decide)]
  · have hB' : areB f' t' N.weeks.length = true := by rw [← hb, hB]
    obtain ⟨e1, e2⟩ := h1 hB
    have b1 := areB_iff.1 hB
    have b2 := areB_iff.1 hB'
    rw [sumsL_bits hM (by omega) (by omega), sumsL_bits hN (by omega) (by omega), h.sums hM hN (by omega) (by omega) (by omega) (by omega) e1 e2]
theorem Iso.showsA (h : Iso M N T U) (hM : ValidM M) (hN : ValidM N) {a b : Int} (hb : isAf a M.weeks.length = isAf b N.weeks.length)
    (h1 : isAf a M.weeks.length = true → (∀ D, T D b.toNat % 100 = D a.toNat % 100) ∧ ∀ E, U E a.toNat % 100 = E b.toNat % 100) :
    showsA M a = Go.Proofs.YtaoamnhchidjfaaGreatDoor.showsA N b ∧ askV M (isAf a M.weeks.length) = askV N (isAf b N.weeks.length) := by
  have ha : askV M (isAf a M.weeks.length) = askV N (isAf b N.weeks.length) := by rw [hb]; exact h.askB hM hN _
  refine ⟨?_, ha⟩
  unfold Go.Proofs.YtaoamnhchidjfaaGreatDoor.showsA
  rw [ha]
  cases hB : isAf a M.weeks.length
  · rw [← hb, hB, askV_false hN, okL_ne (by decide), okL_ne (by decide)]
  · have hB' : isAf b N.weeks.length = true := by rw [← hb, hB]
    obtain ⟨e1, e2⟩ := h1 hB
    have b1 := isAf_iff.1 hB
    have b2 := isAf_iff.1 hB'
    rw [shows_eq hM (by omega), shows_eq hN (by omega), h.shows hM hN (by omega) (by omega) e1 e2]
theorem Iso.week (h : Iso M N T U) (hM : ValidM M) (hN : ValidM N) {a b : Int} {k : Int} (hb : isWkB a M.weeks.length = isWkB b N.weeks.length)
    (h1 : isWkB a M.weeks.length = true → (∀ D, T D (b.toNat + 1) - T D b.toNat = D (a.toNat + 1) - D a.toNat + k) ∧ ∀ E, U E (a.toNat + 1) - U E a.toNat + k = E (b.toNat + 1) - E b.toNat) :
    askV M (isWkB a M.weeks.length) = askV N (isWkB b N.weeks.length) ∧ (askV M (isWkB a M.weeks.length) = 0 → weekLo N b = weekLo M a + k ∧ weekHi N b = weekHi M a + k) ∧ (¬askV M (isWkB a M.weeks.length) = 0 → weekLo N b = weekLo M a ∧ weekHi N b = weekHi M a) := by
  have ha : askV M (isWkB a M.weeks.length) = askV N (isWkB b N.weeks.length) := by rw [hb]; exact h.askB hM hN _
  refine ⟨ha, fun hz => ?_, fun hz => ?_⟩
  · have hB : isWkB a M.weeks.length = true := by
      cases hB : isWkB a M.weeks.length
      · rw [hB, askV_false hM] at hz; exact absurd hz (by decide)
      · rfl
    have hB' : isWkB b N.weeks.length = true := by rw [← hb, hB]
    obtain ⟨e1, e2⟩ := h1 hB
    have b1 := isWkB_iff.1 hB
    have b2 := isWkB_iff.1 hB'
    have hz' := hz
    rw [hB] at hz'
    have hTM := (askV_iff hM).1 hz'
    obtain ⟨D, hD⟩ := hTM
    have s1 := (week_span_of hM (a := a.toNat) (b := a.toNat + 1) (by omega) (by omega) ⟨D, hD⟩).2
    have s2 := (week_span_of hN (a := b.toNat) (b := b.toNat + 1) (by omega) (by omega) ⟨T D, h.tru hD⟩).2
    have hp := h.plays (a := a.toNat) (b := a.toNat + 1) (c := b.toNat) (d := b.toNat + 1) (k := k) e1 e2
    have s3 : SpanOf (PlaysP N b.toNat (b.toNat + 1)) ((((sumsL M a.toNat (a.toNat + 1)).headD 0 : Nat) : Int) + k) ((((sumsL M a.toNat (a.toNat + 1)).getLastD 0 : Nat) : Int) + k) := by
      refine ⟨(hp _).1 s1.1, (hp _).1 s1.2.1, fun x hx => ?_⟩
      have := s1.2.2 (x - k) ((hp _).2 (by rw [show x - k + k = x by omega]; exact hx))
      omega
    have hu := s2.uniq s3
    unfold weekLo weekHi
    rw [← ha, hz, okN_0 rfl, okN_0 rfl, okN_0 rfl, okN_0 rfl]
    exact hu
  · unfold weekLo weekHi
    rw [← ha, okN_ne hz, okN_ne hz, okN_ne hz, okN_ne hz]
    exact ⟨rfl, rfl⟩
theorem Iso.roundsA (h : Iso M N T U) (hM : ValidM M) (hN : ValidM N) {k : Int} (h1 : ∀ D, rd N (T D) = rd M D + k) (h2 : ∀ E, rd M (U E) + k = rd N E) :
    (askV M true = 0 → roundLo N = roundLo M + k ∧ roundHi N = roundHi M + k) ∧ (¬askV M true = 0 → roundLo N = roundLo M ∧ roundHi N = roundHi M) := by
  have ha := h.ask hM hN
  refine ⟨fun hz => ?_, fun hz => ?_⟩
  · have := rounds_ext hM hN ((askV_iff hM).1 hz) (h.rounds h1 h2)
    unfold roundLo roundHi
    rw [← ha, hz, okN_0 rfl, okN_0 rfl, okN_0 rfl, okN_0 rfl]
    exact this
  · unfold roundLo roundHi
    rw [← ha, okN_ne hz, okN_ne hz, okN_ne hz, okN_ne hz]
    exact ⟨rfl, rfl⟩
theorem Iso.nextA (h : Iso M N T U) (hM : ValidM M) (hN : ValidM N) (hl : M.weeks.length = N.weeks.length) (hm : ∀ a, a ≤ M.weeks.length → mostN M a = mostN N a) : nextA M = Go.Proofs.YtaoamnhchidjfaaGreatDoor.nextA N := by
  unfold Go.Proofs.YtaoamnhchidjfaaGreatDoor.nextA
  rw [h.ask hM hN, next_congr hl hm]
theorem Iso.strangeA (h : Iso M N T U) (hM : ValidM M) (hN : ValidM N) {g : Int × Int → Int × Int} (hg : N.reads = M.reads.map g)
    (h1 : ∀ r ∈ M.reads, ∀ D, (T D (g r).1.toNat % 100 = (g r).2) ↔ (D r.1.toNat % 100 = r.2)) (h2 : ∀ r ∈ M.reads, ∀ E, (U E r.1.toNat % 100 = r.2) ↔ (E (g r).1.toNat % 100 = (g r).2)) :
    strangeA M = Go.Proofs.YtaoamnhchidjfaaGreatDoor.strangeA N ∧ sureA M = Go.Proofs.YtaoamnhchidjfaaGreatDoor.sureA N := by
  obtain ⟨e1, e2⟩ := h.picks hM hN hg h1 h2
  unfold Go.Proofs.YtaoamnhchidjfaaGreatDoor.strangeA Go.Proofs.YtaoamnhchidjfaaGreatDoor.sureA
  rw [h.ask hM hN, e1, e2]
  exact ⟨rfl, rfl⟩
end

/-! The order of the readings. -/
theorem order_iso {M N : Mt} (hM : ValidM M) (hw : N.weeks = M.weeks) (hr : N.reads.Perm M.reads) (hwr : N.wrong = M.wrong) : ValidM N ∧ Iso M N id id := by
  have hN : ValidM N := ⟨by rw [hw]; exact hM.nw, by rw [hr.length_eq]; exact hM.nr, by rw [hwr]; exact hM.wr0, by rw [hwr]; exact hM.wr7, by rw [hw]; exact hM.week, fun r h => by rw [hw]; exact hM.read r (hr.mem_iff.1 h)⟩
  have seg : ∀ D a b, Seg M D a b ↔ Seg N D a b := fun D a b => by unfold Seg lowM highM; rw [hw]
  refine ⟨hN, ⟨fun D h => ?_, fun D _ => wd_perm hr D⟩, ⟨fun D h => ?_, fun D _ => (wd_perm hr D).symm⟩, hwr.symm⟩
  · rw [hw]; exact (seg _ _ _).1 h
  · rw [← hw]; exact (seg _ _ _).2 h
theorem order_next {M N : Mt} (hM : ValidM M) (hN : ValidM N) (h : Iso M N id id) (hw : N.weeks = M.weeks) : nextA M = nextA N := by
  have hl : M.weeks.length = N.weeks.length := by rw [hw]
  refine h.nextA hM hN hl fun a ha => ?_
  refine Nat.le_antisymm (most_le fun s hs => ⟨s, hs, ?_⟩) (most_le fun s hs => ⟨s, hs, ?_⟩)
  · exact count_le' hM hN ha (by omega) hs hs fun D hD e => ⟨D, h.tru hD, e, by rw [hw]⟩
  · exact count_le' hN hM (by omega) ha hs hs fun D hD e => ⟨D, h.untru hD, e, by rw [hw]⟩
theorem order_law {M N : Mt} (hM : ValidM M) (hw : N.weeks = M.weeks) (hr : N.reads.Perm M.reads) (hwr : N.wrong = M.wrong) :
    ValidM N ∧ leastTo M 100 = leastTo N 100 ∧ (∀ b, askV M b = askV N b) ∧ (∀ f t, sumsA M f t = sumsA N f t) ∧ (∀ a, showsA M a = showsA N a) ∧ roundLo N = roundLo M ∧ roundHi N = roundHi M ∧ nextA M = nextA N := by
  obtain ⟨hN, h⟩ := order_iso hM hw hr hwr
  have hl : M.weeks.length = N.weeks.length := by rw [hw]
  have hrd := h.roundsA hM hN (k := 0) (fun D => by unfold rd; rw [hw]; simp) (fun E => by unfold rd; rw [hw]; simp)
  refine ⟨hN, h.few hM hN, h.askB hM hN, fun f t => (h.sumsA hM hN (by rw [hl]) fun _ => ⟨fun _ => rfl, fun _ => rfl⟩).1, fun a => (h.showsA hM hN (by rw [hl]) fun _ => ⟨fun _ => rfl, fun _ => rfl⟩).1, ?_, ?_, order_next hM hN h hw⟩
  · by_cases hz : askV M true = 0
    · have := (hrd.1 hz).1; omega
    · exact (hrd.2 hz).1
  · by_cases hz : askV M true = 0
    · have := (hrd.1 hz).2; omega
    · exact (hrd.2 hz).2
end Go.Proofs.YtaoamnhchidjfaaGreatDoor
namespace Go.Proofs.YtaoamnhchidjfaaGreatDoor
open Go.RowKit

def mixL (l : List (Int × Int)) (f : Nat → Int × Int) (k : Nat) : List (Int × Int) := (List.range l.length).map (fun i => if i < k then f i else l.getD i (0, 0))
section
variable {l : List (Int × Int)} {f : Nat → Int × Int} {k : Nat}
theorem mixL_len : (mixL l f k).length = l.length := by unfold mixL; simp
theorem mixL_get {i : Nat} (h : i < l.length) : (mixL l f k)[i]? = some (if i < k then f i else l[i]) := by
  unfold mixL
  rw [List.getElem?_map, List.getElem?_range h]
  simp [List.getD_eq_getElem?_getD, h]
theorem mixL_zero : mixL l f 0 = l := by
  apply List.ext_getElem?
  intro i
  by_cases h : i < l.length
  · rw [mixL_get h, if_neg (by omega), List.getElem?_eq_getElem h]
  · rw [List.getElem?_eq_none (by rw [mixL_len]; omega), List.getElem?_eq_none (by omega)]
theorem mixL_succ (_h : k < l.length) : mixL l f (k + 1) = (mixL l f k).set k (f k) := by
  apply List.ext_getElem?
  intro i
  by_cases hi : i < l.length
  · rw [mixL_get hi, List.getElem?_set, mixL_get hi]
    by_cases e : k = i
    · subst e; rw [if_pos (by omega), if_pos rfl, if_pos (by rw [mixL_len]; exact hi)]
    · rw [if_neg e]
      by_cases e2 : i < k
      · rw [if_pos (by omega), if_pos e2]
      · rw [if_neg (by omega), if_neg e2]
  · rw [List.getElem?_eq_none (by rw [mixL_len]; omega), List.getElem?_eq_none (by rw [List.length_set, mixL_len]; omega)]
theorem mixL_all : mixL l f l.length = (List.range l.length).map f := by
  unfold mixL
  exact List.map_congr_left fun i hi => by rw [if_pos (List.mem_range.1 hi)]
end
theorem pairVs_set {l : List (Int × Int)} {i : Nat} {a b : Int} : ((pairVs l).set (i * 2) (.int .i64 a)).set (i * 2 + 1) (.int .i64 b) = pairVs (l.set i (a, b)) := by
  apply List.ext_getElem?
  intro j
  rw [List.getElem?_set, List.getElem?_set]
  simp only [List.length_set, pairVs_len]
  by_cases hj : j < l.length * 2
  · obtain ⟨m, hm⟩ : ∃ m, j = m * 2 ∨ j = m * 2 + 1 := ⟨j / 2, by omega⟩
    rcases hm with rfl | rfl
    · rw [if_neg (by omega), pairVs_fst (l := l.set i (a, b)) (by rw [List.length_set]; omega)]
      by_cases e : i = m
      · subst e; rw [if_pos rfl, if_pos hj]; simp
      · rw [if_neg (by omega), pairVs_fst (l := l) (by omega), List.getElem_set_ne e]
    · rw [pairVs_snd (l := l.set i (a, b)) (by rw [List.length_set]; omega)]
      by_cases e : i = m
      · subst e; rw [if_pos rfl, if_pos hj]; simp
      · rw [if_neg (by omega), if_neg (by omega), pairVs_snd (l := l) (by omega), List.getElem_set_ne e]
  · have h1 : (pairVs l)[j]? = none := List.getElem?_eq_none (by rw [pairVs_len]; omega)
    have h2 : (pairVs (l.set i (a, b)))[j]? = none := List.getElem?_eq_none (by rw [pairVs_len, List.length_set]; omega)
    rw [h1, h2]
    by_cases e1 : i * 2 + 1 = j
    · rw [if_pos e1, if_neg (by omega)]
    · rw [if_neg e1]
      by_cases e2 : i * 2 = j
      · rw [if_pos e2, if_neg (by omega)]
      · rw [if_neg e2]
theorem rot_perm (l : List (Int × Int)) (b : Nat) : ((List.range l.length).map (fun i => l.getD ((i + b) % l.length) (0, 0))).Perm l := by
  by_cases hn : l.length = 0
  · have : l = [] := List.length_eq_zero_iff.1 hn
    subst this
    exact List.Perm.refl _
  · have hr : b % l.length < l.length := Nat.mod_lt _ (by omega)
    have e : (List.range l.length).map (fun i => l.getD ((i + b) % l.length) (0, 0)) = l.drop (b % l.length) ++ l.take (b % l.length) := by
      apply List.ext_getElem?
      intro i
      by_cases hi : i < l.length
      · rw [List.getElem?_map, List.getElem?_range hi]
        simp only [Option.map_some]
        have hm : (i + b) % l.length = (i + b % l.length) % l.length := by rw [Nat.add_mod, Nat.add_mod i (b % l.length), Nat.mod_mod]
        by_cases h1 : i < l.length - b % l.length
        · rw [List.getElem?_append_left (by rw [List.length_drop]; exact h1), List.getElem?_drop]
          have h2 : (i + b) % l.length = b % l.length + i := by rw [hm, Nat.mod_eq_of_lt (by omega)]; omega
          rw [h2, List.getD_eq_getElem?_getD, List.getElem?_eq_getElem (by omega)]; rfl
        · rw [List.getElem?_append_right (by rw [List.length_drop]; omega), List.length_drop, List.getElem?_take, if_pos (by omega)]
          have h2 : (i + b) % l.length = i - (l.length - b % l.length) := by
            rw [hm, Nat.mod_eq_sub_mod (by omega), Nat.mod_eq_of_lt (by omega)]; omega
          rw [h2, List.getD_eq_getElem?_getD, List.getElem?_eq_getElem (by omega)]; rfl
      · rw [List.getElem?_eq_none (by simp; omega), List.getElem?_eq_none (by simp; omega)]
    rw [e]
    have := List.perm_append_comm (l₁ := l.drop (b % l.length)) (l₂ := l.take (b % l.length))
    rwa [List.take_append_drop] at this

theorem sameX {a : World} {x : ExtW a} {p q : Option Addr} {l : List Int} {c d : Nat} (hl : l.length ≤ 100000) (h1 : IntsAt x.w p l) (h2 : IntsAt x.w q l) :
    Calls Tryz.prog 22 #[.slice p l.length c, .slice q l.length d] x.w fun e w'' => e = .returned (.bool true) ∧ ∃ y : ExtW a, w'' = y.w ∧ Ext x.w y.w :=
  ExtW.callX (v := .bool true) (by
    have h := SameInts02 p q l l c d x.w hl (by omega) h1 h2
    rwa [decide_eq_true rfl] at h)
theorem row_sets {w : World} {B g n c k : Nat} {e : TypeId} {l : List (Int × Int)} {x y : Int} (h : w.ownsRow B e 2 (.slice (some ⟨g, 0, none⟩) n c) n (pairVs l)) :
    ((w.setCell ⟨g, k * 2, none⟩ (.int .i64 x)).setCell ⟨g, k * 2 + 1, none⟩ (.int .i64 y)).ownsRow B e 2 (.slice (some ⟨g, 0, none⟩) n c) n (pairVs (l.set k (x, y))) := by
  have := ownsRow_setV (i := k * 2 + 1) (u := .int .i64 y) (ownsRow_setV (i := k * 2) (u := .int .i64 x) h)
  rwa [pairVs_set] at this
theorem row_cells {w : World} {B g n c k : Nat} {e : TypeId} {l : List (Int × Int)} (h : w.ownsRow B e 2 (.slice (some ⟨g, 0, none⟩) n c) n (pairVs l)) (hk : k < l.length) :
    w.cell? ⟨g, k * 2, none⟩ = some (.int .i64 l[k].1) ∧ w.cell? ⟨g, k * 2 + 1, none⟩ = some (.int .i64 l[k].2) := by
  obtain ⟨b, o, he, h1, h2⟩ := row_pairs h k hk
  cases he
  rw [Nat.zero_add] at h1 h2
  exact ⟨h1, h2⟩
end Go.Proofs.YtaoamnhchidjfaaGreatDoor
