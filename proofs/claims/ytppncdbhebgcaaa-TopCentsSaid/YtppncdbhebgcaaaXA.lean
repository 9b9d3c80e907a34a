
/- Truths of a meter: what it can have counted, ahead of a number of weeks and behind it. Sets of numbers as bits; what the paths of a meter hold. What a meter is asked for: fewest wrong readings, sums, totals; their laws. Rounds, what the meter shows, when it is read next: their laws. -/
namespace Go.Proofs.Ytppncdbhebgcaaa
/-- A meter: the span of each week, the readings (after, shown), how many can be wrong. -/
structure Mt where
  weeks : List (Int × Int)
  reads : List (Int × Int)
  wrong : Int

def lowM (M : Mt) (i : Nat) : Int := (M.weeks.getD i (0, 0)).1
def highM (M : Mt) (i : Nat) : Int := (M.weeks.getD i (0, 0)).2

structure ValidM (M : Mt) : Prop where
  nw : M.weeks.length ≤ 5
  nr : M.reads.length ≤ 7
  wr0 : 0 ≤ M.wrong
  wr7 : M.wrong ≤ 7
  week : ∀ x ∈ M.weeks, 0 ≤ x.1 ∧ x.1 ≤ x.2 ∧ x.2 ≤ 300
  read : ∀ r ∈ M.reads, 0 ≤ r.1 ∧ r.1 ≤ M.weeks.length ∧ 0 ≤ r.2 ∧ r.2 ≤ 99

/-- What the meter has counted when so many weeks are over: the steps from one number of weeks to another are within the spans. -/
def Seg (M : Mt) (D : Nat → Int) (a b : Nat) : Prop := ∀ i, a ≤ i → i < b → lowM M i ≤ D (i + 1) - D i ∧ D (i + 1) - D i ≤ highM M i

/-- How many readings of some kind are not right. -/
def wIn (l : List (Int × Int)) (D : Nat → Int) (P : Int → Bool) : Nat := l.countP (fun r => P r.1 && decide (D r.1.toNat % 100 ≠ r.2))

def Wd (M : Mt) (D : Nat → Int) : Nat := wIn M.reads D (fun _ => true)

theorem wIn_congr {l : List (Int × Int)} {D E : Nat → Int} {P : Int → Bool} (h : ∀ r ∈ l, P r.1 = true → D r.1.toNat % 100 = E r.1.toNat % 100) : wIn l D P = wIn l E P := by
  unfold wIn
  refine List.countP_congr fun r hr => ?_
  by_cases hp : P r.1 = true
  · rw [h r hr hp]
  · simp [hp]

theorem wIn_split {l : List (Int × Int)} {D : Nat → Int} {P Q : Int → Bool} (h : ∀ r ∈ l, P r.1 = true → Q r.1 = false) : wIn l D (fun x => P x || Q x) = wIn l D P + wIn l D Q := by
  unfold wIn
  induction l with
  | nil => rfl
  | cons r l ih =>
    rw [List.countP_cons, List.countP_cons, List.countP_cons, ih (fun r hr => h r (List.mem_cons_of_mem _ hr))]
    have := h r List.mem_cons_self
    cases hp : P r.1 <;> cases hq : Q r.1 <;> cases hd : decide (D r.1.toNat % 100 ≠ r.2) <;> simp_all <;> omega

theorem wIn_all {l : List (Int × Int)} {D : Nat → Int} {P Q : Int → Bool} (h : ∀ r ∈ l, P r.1 = Q r.1) : wIn l D P = wIn l D Q := by
  unfold wIn
  exact List.countP_congr fun r hr => by rw [h r hr]

theorem wIn_le {l : List (Int × Int)} {D : Nat → Int} {P : Int → Bool} : wIn l D P ≤ l.length := List.countP_le_length

/-- From a number of weeks on: how many plays there were, and how many readings behind the first are not right. -/
def AheadQ (M : Mt) (sh : Int) (a b : Nat) (n : Int) (c : Nat) : Prop :=
  ∃ D : Nat → Int, D a % 100 = sh ∧ Seg M D a b ∧ D b - D a = n ∧ wIn M.reads D (fun x => decide (a < x ∧ x ≤ b)) = c
def BeforeQ (M : Mt) (sh : Int) (a b : Nat) (n : Int) (c : Nat) : Prop :=
  ∃ D : Nat → Int, D b % 100 = sh ∧ Seg M D a b ∧ D b - D a = n ∧ wIn M.reads D (fun x => decide (a ≤ x ∧ x < b)) = c

def hereW (M : Mt) (a : Nat) (sh : Int) : Nat := M.reads.countP (fun r => decide (r.1 = (a : Int)) && decide (sh ≠ r.2))

theorem hereW_eq {M : Mt} {D : Nat → Int} {a : Nat} : wIn M.reads D (fun x => decide (x = (a : Int))) = hereW M a (D a % 100) := by
  unfold wIn hereW
  refine List.countP_congr fun r hr => ?_
  by_cases h : r.1 = a
  · simp [h]
  · simp [h]

/-- The step of the paths ahead. -/
theorem ahead_zero {M : Mt} {sh n : Int} {a c : Nat} (h : sh % 100 = sh) : AheadQ M sh a a n c ↔ n = 0 ∧ c = 0 := by
  constructor
  · rintro ⟨D, h1, h2, h3, h4⟩
    refine ⟨by omega, ?_⟩
    rw [← h4]
    unfold wIn
    rw [List.countP_eq_zero]
    intro r hr
    have : decide ((a : Int) < r.1 ∧ r.1 ≤ a) = false := by simp; try omega
    simp [this]
  · rintro ⟨rfl, rfl⟩
    refine ⟨fun _ => sh, h, fun i h1 h2 => by omega, by omega, ?_⟩
    unfold wIn
    rw [List.countP_eq_zero]
    intro r hr
    have : decide ((a : Int) < r.1 ∧ r.1 ≤ a) = false := by simp; try omega
    simp [this]

theorem wIn_cut {M : Mt} {D : Nat → Int} {a b : Nat} (h : a ≤ b) : wIn M.reads D (fun x => decide ((a : Int) < x ∧ x ≤ (b + 1 : Nat))) = wIn M.reads D (fun x => decide ((a : Int) < x ∧ x ≤ b)) + hereW M (b + 1) (D (b + 1) % 100) := by
  rw [← hereW_eq, ← wIn_split]
  · refine wIn_all fun r hr => ?_
    by_cases h1 : r.1 = ((b + 1 : Nat) : Int)
    · simp [h1]; omega
    · by_cases h2 : (a : Int) < r.1 ∧ r.1 ≤ b
      · simp [h2]; omega
      · have e1 : decide ((a : Int) < r.1 ∧ r.1 ≤ b) = false := by simp; try omega
        have e2 : decide ((a : Int) < r.1 ∧ r.1 ≤ (b + 1 : Nat)) = false := by simp; try omega
        rw [e1, e2]; simp; omega
  · intro r hr
    simp; omega

theorem ahead_succ {M : Mt} {sh n : Int} {a b c : Nat} (hab : a ≤ b) : AheadQ M sh a (b + 1) n c ↔ ∃ x c', lowM M b ≤ x ∧ x ≤ highM M b ∧ AheadQ M sh a b (n - x) c' ∧ c = c' + hereW M (b + 1) ((sh + n) % 100) := by
  constructor
  · rintro ⟨D, h1, h2, h3, h4⟩
    have hb := h2 b hab (by omega)
    refine ⟨D (b + 1) - D b, wIn M.reads D (fun x => decide ((a : Int) < x ∧ x ≤ b)), hb.1, hb.2, ⟨D, h1, fun i h h' => h2 i h (by omega), by omega, rfl⟩, ?_⟩
    rw [← h4, wIn_cut hab]
    have : D (b + 1) % 100 = (sh + n) % 100 := by omega
    rw [this]
  · rintro ⟨x, c', hx1, hx2, ⟨D, h1, h2, h3, h4⟩, rfl⟩
    let E : Nat → Int := fun i => if i ≤ b then D i else D b + x
    have e0 : ∀ i, i ≤ b → E i = D i := fun i hi => if_pos hi
    have e1 : E (b + 1) = D b + x := if_neg (by omega)
    refine ⟨E, by rw [e0 a hab]; exact h1, ?_, by rw [e1, e0 a hab]; omega, ?_⟩
    · intro i h h'
      by_cases hi : i = b
      · subst hi; rw [e1, e0 _ (Nat.le_refl _)]; omega
      · rw [e0 i (by omega), e0 (i + 1) (by omega)]; exact h2 i h (by omega)
    · rw [wIn_cut hab, e1]
      have h5 : (D b + x) % 100 = (sh + n) % 100 := by omega
      rw [h5, ← h4]
      congr 1
      refine wIn_congr fun r hr hp => ?_
      have := of_decide_eq_true hp
      rw [e0 _ (by omega)]

theorem before_zero {M : Mt} {sh n : Int} {a c : Nat} (h : sh % 100 = sh) : BeforeQ M sh a a n c ↔ n = 0 ∧ c = 0 := by
  constructor
  · rintro ⟨D, h1, h2, h3, h4⟩
    refine ⟨by omega, ?_⟩
    rw [← h4]
    unfold wIn
    rw [List.countP_eq_zero]
    intro r hr
    have : decide ((a : Int) ≤ r.1 ∧ r.1 < a) = false := by simp; try omega
    simp [this]
  · rintro ⟨rfl, rfl⟩
    refine ⟨fun _ => sh, h, fun i h1 h2 => by omega, by omega, ?_⟩
    unfold wIn
    rw [List.countP_eq_zero]
    intro r hr
    have : decide ((a : Int) ≤ r.1 ∧ r.1 < a) = false := by simp; try omega
    simp [this]

theorem wIn_cut' {M : Mt} {D : Nat → Int} {a b : Nat} (h : a + 1 ≤ b) : wIn M.reads D (fun x => decide ((a : Int) ≤ x ∧ x < b)) = wIn M.reads D (fun x => decide (((a + 1 : Nat) : Int) ≤ x ∧ x < b)) + hereW M a (D a % 100) := by
  rw [← hereW_eq, ← wIn_split]
  · refine wIn_all fun r hr => ?_
    by_cases h1 : r.1 = (a : Int)
    · simp [h1]; omega
    · by_cases h2 : ((a + 1 : Nat) : Int) ≤ r.1 ∧ r.1 < b
      · have e1 : decide (((a + 1 : Nat) : Int) ≤ r.1 ∧ r.1 < b) = true := by simp; omega
        have e2 : decide ((a : Int) ≤ r.1 ∧ r.1 < b) = true := by simp; omega
        rw [e1, e2]; simp
      · have e1 : decide (((a + 1 : Nat) : Int) ≤ r.1 ∧ r.1 < b) = false := by simp; try omega
        have e2 : decide ((a : Int) ≤ r.1 ∧ r.1 < b) = false := by simp; try omega
        rw [e1, e2]; simp; omega
  · intro r hr
    simp; omega

theorem before_succ {M : Mt} {sh n : Int} {a b c : Nat} (hab : a + 1 ≤ b) : BeforeQ M sh a b n c ↔ ∃ x c', lowM M a ≤ x ∧ x ≤ highM M a ∧ BeforeQ M sh (a + 1) b (n - x) c' ∧ c = c' + hereW M a ((sh - n) % 100) := by
  constructor
  · rintro ⟨D, h1, h2, h3, h4⟩
    have hb := h2 a (Nat.le_refl _) (by omega)
    refine ⟨D (a + 1) - D a, wIn M.reads D (fun x => decide (((a + 1 : Nat) : Int) ≤ x ∧ x < b)), hb.1, hb.2, ⟨D, h1, fun i h h' => h2 i (by omega) (by omega), by omega, rfl⟩, ?_⟩
    rw [← h4, wIn_cut' hab]
    have : D a % 100 = (sh - n) % 100 := by omega
    rw [this]
  · rintro ⟨x, c', hx1, hx2, ⟨D, h1, h2, h3, h4⟩, rfl⟩
    let E : Nat → Int := fun i => if a + 1 ≤ i then D i else D (a + 1) - x
    have e0 : ∀ i, a + 1 ≤ i → E i = D i := fun i hi => if_pos hi
    have e1 : E a = D (a + 1) - x := if_neg (by omega)
    refine ⟨E, by rw [e0 b hab]; exact h1, ?_, by rw [e1, e0 b hab]; omega, ?_⟩
    · intro i h h'
      by_cases hi : i = a
      · subst hi; rw [e1, e0 _ (Nat.le_refl _)]; omega
      · rw [e0 i (by omega), e0 (i + 1) (by omega)]; exact h2 i (by omega) (by omega)
    · rw [wIn_cut' hab, e1]
      have h5 : (D (a + 1) - x) % 100 = (sh - n) % 100 := by omega
      rw [h5, ← h4]
      congr 1
      refine wIn_congr fun r hr hp => ?_
      have := of_decide_eq_true hp
      rw [e0 _ (by omega)]

/-- A truth (whatever it begins with) of which so many readings are wrong: what it shows, and the plays of three parts. -/
def TruthQ (M : Mt) (D : Nat → Int) (c : Nat) : Prop := Seg M D 0 M.weeks.length ∧ Wd M D = c

theorem truth_parts {M : Mt} (hM : ValidM M) {sh n0 n1 n2 : Int} {a b c : Nat} (hab : a ≤ b) (hb : b ≤ M.weeks.length) :
    (∃ D, TruthQ M D c ∧ D a % 100 = sh ∧ D a - D 0 = n0 ∧ D b - D a = n1 ∧ D M.weeks.length - D b = n2) ↔
    ∃ c0 c1 c2, BeforeQ M sh 0 a n0 c0 ∧ AheadQ M sh a b n1 c1 ∧ AheadQ M ((sh + n1) % 100) b M.weeks.length n2 c2 ∧ c = c0 + hereW M a sh + c1 + c2 := by
  have key : ∀ D : Nat → Int, Wd M D = wIn M.reads D (fun x => decide (((0 : Nat) : Int) ≤ x ∧ x < a)) + hereW M a (D a % 100) + wIn M.reads D (fun x => decide ((a : Int) < x ∧ x ≤ b)) + wIn M.reads D (fun x => decide ((b : Int) < x ∧ x ≤ M.weeks.length)) := by
    intro D
    rw [← hereW_eq, ← wIn_split, ← wIn_split, ← wIn_split]
    · unfold Wd
      refine wIn_all fun r hr => ?_
      obtain ⟨r1, r2, -, -⟩ := hM.read r hr
      by_cases h1 : r.1 = (a : Int)
      · simp [h1]
      · simp only [h1, decide_false, Bool.or_false]
        symm
        simp only [Bool.or_eq_true, decide_eq_true_eq]
        omega
    · intro r hr; simp; omega
    · intro r hr; simp; omega
    · intro r hr; simp; omega
  constructor
  · rintro ⟨D, ⟨h1, h2⟩, h3, h4, h5, h6⟩
    refine ⟨_, _, _, ⟨D, h3, fun i h h' => h1 i (by omega) (by omega), h4, rfl⟩, ⟨D, h3, fun i h h' => h1 i (by omega) (by omega), h5, rfl⟩, ⟨D, by omega, fun i h h' => h1 i (by omega) (by omega), h6, rfl⟩, ?_⟩
    rw [← h2, key D, h3]
  · rintro ⟨c0, c1, c2, ⟨D0, p1, p2, p3, p4⟩, ⟨D1, q1, q2, q3, q4⟩, ⟨D2, r1, r2, r3, r4⟩, rfl⟩
    let E : Nat → Int := fun i => if i ≤ a then D0 i else if i ≤ b then D1 i - D1 a + D0 a else D2 i - D2 b + (D1 b - D1 a + D0 a)
    have e0 : ∀ i, i ≤ a → E i = D0 i := fun i hi => if_pos hi
    have e1 : ∀ i, a ≤ i → i ≤ b → E i = D1 i - D1 a + D0 a := by
      intro i h h'
      by_cases hi : i = a
      · subst hi; rw [e0 _ (Nat.le_refl _)]; omega
      · show (if i ≤ a then _ else _) = _; rw [if_neg (by omega), if_pos h']
    have e2 : ∀ i, b ≤ i → E i = D2 i - D2 b + (D1 b - D1 a + D0 a) := by
      intro i h
      by_cases hi : i = b
      · subst hi; rw [e1 _ hab (Nat.le_refl _)]; omega
      · show (if i ≤ a then _ else _) = _; rw [if_neg (by omega), if_neg (by omega)]
    refine ⟨E, ⟨?_, ?_⟩, by rw [e0 a (Nat.le_refl _)]; exact p1, by rw [e0 a (Nat.le_refl _), e0 0 (by omega)]; exact p3, by rw [e1 b hab (Nat.le_refl _), e0 a (Nat.le_refl _)]; omega, by rw [e2 _ hb, e2 _ (Nat.le_refl _)]; omega⟩
    · intro i _ h'
      by_cases h1 : i < a
      · rw [e0 i (by omega), e0 (i + 1) (by omega)]; exact p2 i (by omega) h1
      · by_cases h2 : i < b
        · rw [e1 i (by omega) (by omega), e1 (i + 1) (by omega) (by omega)]
          have := q2 i (by omega) h2; omega
        · rw [e2 i (by omega), e2 (i + 1) (by omega)]
          have := r2 i (by omega) h'; omega
    · rw [key E, e0 a (Nat.le_refl _), p1]
      congr 1
      · congr 1
        · congr 1
          rw [← p4]
          refine wIn_congr fun r hr hp => ?_
          have := of_decide_eq_true hp
          rw [e0 _ (by omega)]
        · rw [← q4]
          refine wIn_congr fun r hr hp => ?_
          have := of_decide_eq_true hp
          rw [e1 _ (by omega) (by omega)]; omega
      · rw [← r4]
        refine wIn_congr fun r hr hp => ?_
        have := of_decide_eq_true hp
        rw [e2 _ (by omega)]; omega
end Go.Proofs.Ytppncdbhebgcaaa
namespace Go.Proofs.Ytppncdbhebgcaaa
/-! Sets of numbers below 1536 as the bits of a number. -/
def capN : Nat := 1536
theorem capN_eq : capN = 1536 := rfl
def upN (S n : Nat) : Nat := (S <<< n) % 2 ^ capN
def andNot (S T : Nat) : Nat := S ^^^ (S &&& T)
def maskN (r : Nat) : Nat := (List.range 16).foldl (fun a i => a ||| upN 1 (100 * i + r)) 0
def spreadW (S lo w : Nat) : Nat := (List.range w).foldl (fun a x => a ||| upN S (lo + x)) 0
def bitsN (S : Nat) : List Nat := (List.range 1536).filter S.testBit
def readL (P : List Nat) (right : Nat) : List Nat := List.zipWith (fun x y => (x &&& right) ||| andNot y right) P (0 :: P)

theorem testBit_upN {S n k : Nat} : (upN S n).testBit k = (decide (k < 1536) && decide (n ≤ k) && S.testBit (k - n)) := by
  unfold upN
  rw [Nat.testBit_mod_two_pow, Nat.testBit_shiftLeft, Bool.and_assoc, capN_eq]
theorem testBit_andNot {S T k : Nat} : (andNot S T).testBit k = (S.testBit k && !T.testBit k) := by
  unfold andNot
  rw [Nat.testBit_xor, Nat.testBit_and]
  cases S.testBit k <;> cases T.testBit k <;> rfl
theorem testBit_fold {f : Nat → Nat} {k : Nat} : ∀ (l : List Nat) (a : Nat), (l.foldl (fun a i => a ||| f i) a).testBit k = (a.testBit k || l.any (fun i => (f i).testBit k)) := by
  intro l
  induction l with
  | nil => intro a; simp
  | cons x l ih => intro a; rw [List.foldl_cons, ih, Nat.testBit_or, List.any_cons, Bool.or_assoc]

theorem testBit_maskN {r k : Nat} (hr : r < 100) : (maskN r).testBit k = (decide (k < 1536) && decide (k % 100 = r)) := by
  unfold maskN
  rw [testBit_fold, Nat.zero_testBit, Bool.false_or]
  apply Bool.eq_iff_iff.2
  simp only [List.any_eq_true, List.mem_range, testBit_upN, Bool.and_eq_true, decide_eq_true_eq]
  constructor
  · rintro ⟨i, hi, ⟨h1, h2⟩, h3⟩
    refine ⟨h1, ?_⟩
    have : k - (100 * i + r) = 0 := by
      have h4 : Nat.testBit 1 (k - (100 * i + r)) = true := h3
      rw [Nat.testBit_one_eq_true_iff_self_eq_zero] at h4
      exact h4
    omega
  · rintro ⟨h1, h2⟩
    refine ⟨k / 100, by omega, ⟨h1, by omega⟩, ?_⟩
    have : k - (100 * (k / 100) + r) = 0 := by omega
    rw [this]; rfl

theorem testBit_spreadW {S lo w k : Nat} : (spreadW S lo w).testBit k = true ↔ k < 1536 ∧ ∃ x, x < w ∧ lo + x ≤ k ∧ S.testBit (k - (lo + x)) = true := by
  unfold spreadW
  rw [testBit_fold, Nat.zero_testBit, Bool.false_or]
  simp only [List.any_eq_true, List.mem_range, testBit_upN, Bool.and_eq_true, decide_eq_true_eq]
  constructor
  · rintro ⟨x, h1, ⟨h2, h3⟩, h4⟩
    exact ⟨h2, x, h1, h3, h4⟩
  · rintro ⟨h2, x, h1, h3, h4⟩
    exact ⟨x, h1, ⟨h2, h3⟩, h4⟩

theorem mem_bitsN {S n : Nat} : n ∈ bitsN S ↔ n < 1536 ∧ S.testBit n = true := by
  unfold bitsN
  rw [List.mem_filter, List.mem_range]
theorem zero_iff {S : Nat} : S = 0 ↔ ∀ k, S.testBit k = false := by
  constructor
  · rintro rfl k; exact Nat.zero_testBit k
  · intro h
    apply Nat.eq_of_testBit_eq
    intro k; rw [h, Nat.zero_testBit]

theorem readL_length {P : List Nat} {right : Nat} : (readL P right).length = P.length := by
  unfold readL; simp
theorem readL_get {P : List Nat} {right c : Nat} (hc : c < P.length) : (readL P right).getD c 0 = (P.getD c 0 &&& right) ||| andNot (if c = 0 then 0 else P.getD (c - 1) 0) right := by
  unfold readL
  rw [List.getD_eq_getElem?_getD, List.getElem?_zipWith, List.getElem?_eq_getElem hc]
  cases c with
  | zero => simp [List.getElem?_eq_getElem hc]
  | succ c => simp [List.getElem?_eq_getElem hc, List.getElem?_eq_getElem (show c < P.length by omega)]

/-- Eight sets stand for a set of pairs. -/
def Stands (P : List Nat) (Q : Nat → Nat → Prop) : Prop := P.length = 8 ∧ ∀ c, c < 8 → ∀ n, (P.getD c 0).testBit n = true ↔ Q n c

theorem stands_read {rs : List (Int × Int)} {right : Int × Int → Nat} {is : Int × Int → Nat → Bool} (hr : ∀ r ∈ rs, ∀ n, n < 1536 → (right r).testBit n = is r n) :
    ∀ {P : List Nat} {Q : Nat → Nat → Prop}, Stands P Q → (∀ n c, Q n c → n < 1536 ∧ c + rs.length ≤ 7) →
    Stands (rs.foldl (fun P r => readL P (right r)) P) (fun n c => ∃ c', Q n c' ∧ c = c' + rs.countP (fun r => !is r n)) := by
  induction rs with
  | nil =>
    intro P Q h _
    refine ⟨h.1, fun c hc n => ?_⟩
    rw [List.foldl_nil, h.2 c hc n]
    simp
  | cons r rs ih =>
    intro P Q h hb
    have hb' : ∀ n c, Q n c → n < 1536 ∧ c + rs.length + 1 ≤ 7 := fun n c hq => by have := hb n c hq; rw [List.length_cons] at this; omega
    have h1 : Stands (readL P (right r)) (fun n c => ∃ c', Q n c' ∧ c = c' + (if is r n then 0 else 1)) := by
      refine ⟨by rw [readL_length, h.1], fun c hc n => ?_⟩
      rw [readL_get (by rw [h.1]; exact hc), Nat.testBit_or, Nat.testBit_and, testBit_andNot, Bool.or_eq_true, Bool.and_eq_true, Bool.and_eq_true, h.2 c hc n]
      constructor
      · rintro (⟨h1, h2⟩ | ⟨h1, h2⟩)
        · refine ⟨c, h1, ?_⟩
          rw [hr r List.mem_cons_self n (hb' _ _ h1).1] at h2
          rw [h2]; rfl
        · by_cases h0 : c = 0
          · rw [if_pos h0, Nat.zero_testBit] at h1; cases h1
          · rw [if_neg h0, h.2 _ (by omega) n] at h1
            refine ⟨c - 1, h1, ?_⟩
            rw [hr r List.mem_cons_self n (hb' _ _ h1).1] at h2
            have h2' : is r n = false := by simpa using h2
            rw [h2']; simp; omega
      · rintro ⟨c', h1, h2⟩
        have h3 := hb' _ _ h1
        cases hi : is r n
        · rw [hi] at h2
          have h4 : c = c' + 1 := by simpa using h2
          refine Or.inr ⟨?_, ?_⟩
          · rw [if_neg (by omega), h.2 _ (by omega) n]
            have : c - 1 = c' := by omega
            rw [this]; exact h1
          · rw [hr r List.mem_cons_self n h3.1, hi]; rfl
        · rw [hi] at h2
          have h4 : c = c' := by simpa using h2
          subst h4
          exact Or.inl ⟨h1, by rw [hr r List.mem_cons_self n h3.1, hi]⟩
    have h2 := ih (fun r hr' => hr r (List.mem_cons_of_mem _ hr')) h1 (by
      rintro n c ⟨c', h3, rfl⟩
      have := hb' _ _ h3
      refine ⟨this.1, ?_⟩
      split <;> omega)
    refine ⟨h2.1, fun c hc n => ?_⟩
    rw [List.foldl_cons, h2.2 c hc n]
    constructor
    · rintro ⟨c', ⟨c'', h3, rfl⟩, rfl⟩
      refine ⟨c'', h3, ?_⟩
      rw [List.countP_cons]
      cases is r n <;> simp <;> omega
    · rintro ⟨c', h3, rfl⟩
      refine ⟨_, ⟨c', h3, rfl⟩, ?_⟩
      rw [List.countP_cons]
      cases is r n <;> simp <;> omega

theorem stands_congr {P : List Nat} {Q R : Nat → Nat → Prop} (h : Stands P Q) (hq : ∀ n c, c < 8 → (Q n c ↔ R n c)) : Stands P R := ⟨h.1, fun c hc n => (h.2 c hc n).trans (hq n c hc)⟩

theorem getD_map {P : List Nat} {f : Nat → Nat} {c : Nat} (hc : c < P.length) : (P.map f).getD c 0 = f (P.getD c 0) := by
  rw [List.getD_eq_getElem?_getD, List.getD_eq_getElem?_getD, List.getElem?_map, List.getElem?_eq_getElem hc]; rfl

theorem stands_spread {P : List Nat} {Q : Nat → Nat → Prop} {lo w : Nat} (h : Stands P Q) (hb : ∀ n c, Q n c → n + lo + w ≤ 1536) :
    Stands (P.map (fun S => spreadW S lo w)) (fun n c => ∃ x, x < w ∧ lo + x ≤ n ∧ Q (n - (lo + x)) c) := by
  refine ⟨by rw [List.length_map, h.1], fun c hc n => ?_⟩
  rw [getD_map (by rw [h.1]; exact hc), testBit_spreadW]
  constructor
  · rintro ⟨h1, x, h2, h3, h4⟩
    exact ⟨x, h2, h3, (h.2 c hc _).1 h4⟩
  · rintro ⟨x, h2, h3, h4⟩
    have := hb _ _ h4
    exact ⟨by omega, x, h2, h3, (h.2 c hc _).2 h4⟩

/-! The paths of a meter. -/
def lowN (M : Mt) (i : Nat) : Nat := (lowM M i).toNat
def wideN (M : Mt) (i : Nat) : Nat := (highM M i - lowM M i + 1).toNat
def atL (M : Mt) (a : Nat) : List (Int × Int) := M.reads.filter (fun r => decide (r.1 = (a : Int)))
def modI (n : Int) : Nat := (n % 100).toNat
def aheadL (M : Mt) (a : Nat) (sh : Int) : Nat → List Nat
  | 0 => [1, 0, 0, 0, 0, 0, 0, 0]
  | k + 1 => (atL M (a + k + 1)).foldl (fun P r => readL P (maskN (modI (r.2 - sh)))) ((aheadL M a sh k).map (fun S => spreadW S (lowN M (a + k)) (wideN M (a + k))))
def beforeL (M : Mt) (b : Nat) (sh : Int) : Nat → List Nat
  | 0 => [1, 0, 0, 0, 0, 0, 0, 0]
  | k + 1 => (atL M (b - k - 1)).foldl (fun P r => readL P (maskN (modI (sh - r.2)))) ((beforeL M b sh k).map (fun S => spreadW S (lowN M (b - k - 1)) (wideN M (b - k - 1))))

theorem week_span {M : Mt} (hM : ValidM M) {i : Nat} (hi : i < M.weeks.length) : 0 ≤ lowM M i ∧ lowM M i ≤ highM M i ∧ highM M i ≤ 300 := by
  unfold lowM highM
  rw [List.getD_eq_getElem?_getD, List.getElem?_eq_getElem hi]
  exact hM.week _ (List.getElem_mem hi)

theorem one_bit {n : Nat} : Nat.testBit 1 n = decide (n = 0) := by
  cases n with
  | zero => rfl
  | succ n =>
    have : (n + 1 = 0) = False := by simp
    cases h : Nat.testBit 1 (n + 1)
    · simp
    · rw [Nat.testBit_one_eq_true_iff_self_eq_zero] at h; omega
theorem stands_start : Stands [1, 0, 0, 0, 0, 0, 0, 0] (fun n c => n = 0 ∧ c = 0) := by
  refine ⟨rfl, fun c hc n => ?_⟩
  match c, hc with
  | 0, _ => rw [show [1, 0, 0, 0, 0, 0, 0, 0].getD 0 0 = 1 from rfl, one_bit]; simp
  | 1, _ => rw [show [1, 0, 0, 0, 0, 0, 0, 0].getD 1 0 = 0 from rfl]; simp
  | 2, _ => rw [show [1, 0, 0, 0, 0, 0, 0, 0].getD 2 0 = 0 from rfl]; simp
  | 3, _ => rw [show [1, 0, 0, 0, 0, 0, 0, 0].getD 3 0 = 0 from rfl]; simp
  | 4, _ => rw [show [1, 0, 0, 0, 0, 0, 0, 0].getD 4 0 = 0 from rfl]; simp
  | 5, _ => rw [show [1, 0, 0, 0, 0, 0, 0, 0].getD 5 0 = 0 from rfl]; simp
  | 6, _ => rw [show [1, 0, 0, 0, 0, 0, 0, 0].getD 6 0 = 0 from rfl]; simp
  | 7, _ => rw [show [1, 0, 0, 0, 0, 0, 0, 0].getD 7 0 = 0 from rfl]; simp

theorem count_le (M : Mt) (D : Nat → Int) (P : Int → Bool) (a : Nat) (h : P a = false) : wIn M.reads D P + (atL M a).length ≤ M.reads.length := by
  unfold wIn atL
  induction M.reads with
  | nil => simp
  | cons r l ih =>
    rw [List.countP_cons, List.filter_cons]
    by_cases e : r.1 = (a : Int)
    · rw [e, h]; simp only [Bool.false_and, Bool.false_eq_true, if_false, decide_true, if_true, List.length_cons]; omega
    · have e2 : decide (r.1 = (a : Int)) = false := decide_eq_false e
      rw [e2]
      simp only [Bool.false_eq_true, if_false, List.length_cons]
      split <;> omega

theorem ahead_bound {M : Mt} (hM : ValidM M) {sh n : Int} {a b c : Nat} (h : AheadQ M sh a b n c) (hab : a ≤ b) (hb : b ≤ M.weeks.length) : 0 ≤ n ∧ n ≤ 300 * ((b - a : Nat) : Int) := by
  obtain ⟨D, -, h2, h3, -⟩ := h
  have key : ∀ k, a + k ≤ b → 0 ≤ D (a + k) - D a ∧ D (a + k) - D a ≤ 300 * (k : Int) := by
    intro k
    induction k with
    | zero => intro _; simp
    | succ k ih =>
      intro hk
      have h4 := ih (by omega)
      have h5 := h2 (a + k) (by omega) (by omega)
      have h6 := week_span hM (i := a + k) (by omega)
      rw [show a + (k + 1) = a + k + 1 by omega]
      omega
  have := key (b - a) (by omega)
  rw [show a + (b - a) = b by omega] at this
  omega
theorem before_bound {M : Mt} (hM : ValidM M) {sh n : Int} {a b c : Nat} (h : BeforeQ M sh a b n c) (hab : a ≤ b) (hb : b ≤ M.weeks.length) : 0 ≤ n ∧ n ≤ 300 * ((b - a : Nat) : Int) := by
  obtain ⟨D, h1, h2, h3, -⟩ := h
  exact ahead_bound hM (sh := D a % 100) (c := _) ⟨D, rfl, h2, h3, rfl⟩ hab hb

theorem count_not {rs : List (Int × Int)} {p q : Int × Int → Bool} (h : ∀ r ∈ rs, p r = q r) : rs.countP p = rs.countP q := List.countP_congr fun r hr => by rw [h r hr]
theorem here_at {M : Mt} {a : Nat} {sh : Int} : hereW M a sh = (atL M a).countP (fun r => decide (sh ≠ r.2)) := by
  unfold hereW atL
  rw [List.countP_filter]
  refine List.countP_congr fun r _ => ?_
  rw [Bool.and_comm]

theorem ahead_stands {M : Mt} (hM : ValidM M) {sh : Int} (h0 : 0 ≤ sh) (h1 : sh < 100) {a : Nat} : ∀ k, a + k ≤ M.weeks.length → Stands (aheadL M a sh k) (fun n c => AheadQ M sh a (a + k) n c) := by
  intro k
  induction k with
  | zero =>
    intro _
    refine stands_congr stands_start fun n c _ => ?_
    rw [show a + 0 = a by omega, ahead_zero (by omega)]
    omega
  | succ k ih =>
    intro hk
    have hw := week_span hM (i := a + k) (by omega)
    have h5 := hM.nw
    have s1 := stands_spread (lo := lowN M (a + k)) (w := wideN M (a + k)) (ih (by omega)) (by
      intro n c hq
      have := ahead_bound hM hq (by omega) (by omega)
      unfold lowN wideN
      rw [show a + k - a = k by omega] at this
      omega)
    have s2 := stands_read (rs := atL M (a + k + 1)) (right := fun r => maskN (modI (r.2 - sh))) (is := fun r n => decide ((n : Int) % 100 = (r.2 - sh) % 100)) (by
      intro r _ n hn
      rw [testBit_maskN (by unfold modI; omega)]
      unfold modI
      simp only [hn, decide_true, Bool.true_and]
      apply Bool.eq_iff_iff.2
      simp only [decide_eq_true_eq]
      omega) s1 (by
      rintro n c ⟨x, h2, h3, h4⟩
      have h6 := ahead_bound hM h4 (by omega) (by omega)
      rw [show a + k - a = k by omega] at h6
      refine ⟨by unfold lowN wideN at *; omega, ?_⟩
      obtain ⟨D, -, -, -, h7⟩ := h4
      have := count_le M D (fun x => decide ((a : Int) < x ∧ x ≤ (a + k : Nat))) (a + k + 1) (by simp; omega)
      have h8 := hM.nr
      omega)
    refine stands_congr s2 fun n c _ => ?_
    rw [show a + (k + 1) = a + k + 1 by omega, ahead_succ (by omega)]
    have hcount : hereW M (a + k + 1) ((sh + n) % 100) = (atL M (a + k + 1)).countP (fun r => !decide ((n : Int) % 100 = (r.2 - sh) % 100)) := by
      rw [here_at]
      refine count_not fun r hr => ?_
      obtain ⟨-, -, r3, r4⟩ := hM.read r (List.mem_filter.1 hr |>.1)
      apply Bool.eq_iff_iff.2
      simp only [decide_eq_true_eq, Bool.not_eq_true', decide_eq_false_iff_not]
      omega
    rw [hcount]
    constructor
    · rintro ⟨c', ⟨x, h2, h3, h4⟩, h5⟩
      refine ⟨lowM M (a + k) + x, c', by omega, by unfold wideN at h2; omega, ?_, h5⟩
      have e : ((n - (lowN M (a + k) + x) : Nat) : Int) = n - (lowM M (a + k) + x) := by unfold lowN at *; omega
      rw [e] at h4; exact h4
    · rintro ⟨x, c', h2, h3, h4, h5⟩
      have h6 := ahead_bound hM h4 (by omega) (by omega)
      refine ⟨c', ⟨(x - lowM M (a + k)).toNat, by unfold wideN; omega, by unfold lowN; omega, ?_⟩, h5⟩
      have e : ((n - (lowN M (a + k) + (x - lowM M (a + k)).toNat) : Nat) : Int) = n - x := by unfold lowN at *; omega
      rw [e]; exact h4

theorem before_stands {M : Mt} (hM : ValidM M) {sh : Int} (h0 : 0 ≤ sh) (h1 : sh < 100) {b : Nat} (hb : b ≤ M.weeks.length) : ∀ k, k ≤ b → Stands (beforeL M b sh k) (fun n c => BeforeQ M sh (b - k) b n c) := by
  intro k
  induction k with
  | zero =>
    intro _
    refine stands_congr stands_start fun n c _ => ?_
    rw [show b - 0 = b by omega, before_zero (by omega)]
    omega
  | succ k ih =>
    intro hk
    have hw := week_span hM (i := b - k - 1) (by omega)
    have h5 := hM.nw
    have s1 := stands_spread (lo := lowN M (b - k - 1)) (w := wideN M (b - k - 1)) (ih (by omega)) (by
      intro n c hq
      have := before_bound hM hq (by omega) (by omega)
      unfold lowN wideN
      rw [show b - (b - k) = k by omega] at this
      omega)
    have s2 := stands_read (rs := atL M (b - k - 1)) (right := fun r => maskN (modI (sh - r.2))) (is := fun r n => decide ((n : Int) % 100 = (sh - r.2) % 100)) (by
      intro r _ n hn
      rw [testBit_maskN (by unfold modI; omega)]
      unfold modI
      simp only [hn, decide_true, Bool.true_and]
      apply Bool.eq_iff_iff.2
      simp only [decide_eq_true_eq]
      omega) s1 (by
      rintro n c ⟨x, h2, h3, h4⟩
      have h6 := before_bound hM h4 (by omega) (by omega)
      rw [show b - (b - k) = k by omega] at h6
      refine ⟨by unfold lowN wideN at *; omega, ?_⟩
      obtain ⟨D, -, -, -, h7⟩ := h4
      have := count_le M D (fun x => decide (((b - k : Nat) : Int) ≤ x ∧ x < b)) (b - k - 1) (by simp; omega)
      have h8 := hM.nr
      omega)
    refine stands_congr s2 fun n c _ => ?_
    rw [show b - (k + 1) = b - k - 1 by omega, before_succ (by omega), show b - k - 1 + 1 = b - k by omega]
    have hcount : hereW M (b - k - 1) ((sh - n) % 100) = (atL M (b - k - 1)).countP (fun r => !decide ((n : Int) % 100 = (sh - r.2) % 100)) := by
      rw [here_at]
      refine count_not fun r hr => ?_
      obtain ⟨-, -, r3, r4⟩ := hM.read r (List.mem_filter.1 hr |>.1)
      apply Bool.eq_iff_iff.2
      simp only [decide_eq_true_eq, Bool.not_eq_true', decide_eq_false_iff_not]
      omega
    rw [hcount]
    constructor
    · rintro ⟨c', ⟨x, h2, h3, h4⟩, h5⟩
      refine ⟨lowM M (b - k - 1) + x, c', by omega, by unfold wideN at h2; omega, ?_, h5⟩
      have e : ((n - (lowN M (b - k - 1) + x) : Nat) : Int) = n - (lowM M (b - k - 1) + x) := by unfold lowN at *; omega
      rw [e] at h4; exact h4
    · rintro ⟨x, c', h2, h3, h4, h5⟩
      have h6 := before_bound hM h4 (by omega) (by omega)
      refine ⟨c', ⟨(x - lowM M (b - k - 1)).toNat, by unfold wideN; omega, by unfold lowN; omega, ?_⟩, h5⟩
      have e : ((n - (lowN M (b - k - 1) + (x - lowM M (b - k - 1)).toNat) : Nat) : Int) = n - x := by unfold lowN at *; omega
      rw [e]; exact h4
end Go.Proofs.Ytppncdbhebgcaaa
namespace Go.Proofs.Ytppncdbhebgcaaa
/-- The first of the sets that is not empty; -1: there is none. -/
def fewL : List Nat → Int
  | [] => -1
  | S :: P => if S = 0 then (if fewL P < 0 then -1 else fewL P + 1) else 0
theorem fewL_spec : ∀ (P : List Nat) (c : Nat), P.getD c 0 ≠ 0 → 0 ≤ fewL P ∧ fewL P ≤ c ∧ P.getD (fewL P).toNat 0 ≠ 0 := by
  intro P
  induction P with
  | nil => intro c h; exact absurd rfl h
  | cons S P ih =>
    intro c h
    unfold fewL
    by_cases hS : S = 0
    · rw [if_pos hS]
      cases c with
      | zero => exact absurd hS h
      | succ c =>
        have h1 := ih c h
        rw [if_neg (by omega)]
        refine ⟨by omega, by omega, ?_⟩
        rw [show (fewL P + 1).toNat = (fewL P).toNat + 1 by omega]
        exact h1.2.2
    · rw [if_neg hS]
      exact ⟨by omega, by omega, hS⟩

theorem bit_ne {S n : Nat} (h : S.testBit n = true) : S ≠ 0 := by
  intro e; rw [e, Nat.zero_testBit] at h; cases h
theorem ne_bit {S : Nat} (h : S ≠ 0) : ∃ n, S.testBit n = true := by
  refine Classical.byContradiction fun h' => h (zero_iff.2 fun k => ?_)
  cases hk : S.testBit k
  · rfl
  · exact absurd ⟨k, hk⟩ h'

theorem fewL_stands {P : List Nat} {Q : Nat → Nat → Prop} (h : Stands P Q) {n c : Nat} (hc : c < 8) (hq : Q n c) : 0 ≤ fewL P ∧ fewL P ≤ c ∧ ∃ m, Q m (fewL P).toNat := by
  obtain ⟨h1, h2, h3⟩ := fewL_spec P c (bit_ne ((h.2 c hc n).2 hq))
  obtain ⟨m, hm⟩ := ne_bit h3
  exact ⟨h1, h2, m, (h.2 _ (by omega) m).1 hm⟩

/-- A truth. -/
def Tru (M : Mt) (D : Nat → Int) : Prop := Seg M D 0 M.weeks.length ∧ (Wd M D : Int) ≤ M.wrong

theorem ahead_ex {M : Mt} (hM : ValidM M) {sh : Int} (h0 : 0 ≤ sh) (h1 : sh < 100) {a b : Nat} (hb : b ≤ M.weeks.length) : ∃ n c : Nat, c < 8 ∧ AheadQ M sh a b n c := by
  let D : Nat → Int := fun i => sh + (((List.range i).drop a).map (fun j => lowM M j)).sum
  have hD : ∀ i, a ≤ i → D (i + 1) - D i = lowM M i := by
    intro i hi
    show sh + (((List.range (i + 1)).drop a).map _).sum - (sh + (((List.range i).drop a).map _).sum) = _
    rw [List.range_succ, List.drop_append_of_le_length (by rw [List.length_range]; exact hi), List.map_append, List.sum_append]
    simp only [List.map_cons, List.map_nil, List.sum_cons, List.sum_nil]
    omega
  have hDa : D a = sh := by
    show sh + (((List.range a).drop a).map _).sum = sh
    rw [List.drop_of_length_le (by rw [List.length_range]; exact Nat.le_refl _)]
    simp
  have hs : Seg M D a b := by
    intro i h2 h3
    rw [hD i h2]
    have := week_span hM (i := i) (by omega)
    omega
  have h2 : AheadQ M sh a b (D b - D a) (wIn M.reads D (fun x => decide ((a : Int) < x ∧ x ≤ b))) := ⟨D, by rw [hDa]; omega, hs, rfl, rfl⟩
  have hle := wIn_le (l := M.reads) (D := D) (P := fun x => decide ((a : Int) < x ∧ x ≤ b))
  have h7 := hM.nr
  by_cases hab : a ≤ b
  · have := ahead_bound hM h2 hab hb
    exact ⟨(D b - D a).toNat, wIn M.reads D (fun x => decide ((a : Int) < x ∧ x ≤ b)), by omega, by rw [Int.toNat_of_nonneg this.1]; exact h2⟩
  · refine ⟨0, 0, by omega, fun _ => sh, by show sh % 100 = sh; omega, fun i _ _ => by omega, by simp, ?_⟩
    unfold wIn
    rw [List.countP_eq_zero]
    intro r _
    have : decide ((a : Int) < r.1 ∧ r.1 ≤ b) = false := by simp; omega
    simp [this]

theorem before_ex {M : Mt} (hM : ValidM M) {sh : Int} (h0 : 0 ≤ sh) (h1 : sh < 100) {a b : Nat} (hb : b ≤ M.weeks.length) : ∃ n c : Nat, c < 8 ∧ BeforeQ M sh a b n c := by
  obtain ⟨n, c, -, D, -, h2, h3, -⟩ := ahead_ex hM h0 h1 (a := a) hb
  let E : Nat → Int := fun i => D i - D b + sh
  have hle := wIn_le (l := M.reads) (D := E) (P := fun x => decide ((a : Int) ≤ x ∧ x < b))
  have h7 := hM.nr
  exact ⟨n, _, by omega, E, by show (D b - D b + sh) % 100 = sh; omega, fun i h h' => by have := h2 i h h'; show _ ≤ D (i + 1) - D b + sh - (D i - D b + sh) ∧ D (i + 1) - D b + sh - (D i - D b + sh) ≤ _; omega, by show D b - D b + sh - (D a - D b + sh) = n; omega, rfl⟩

theorem ahead_c {M : Mt} (hM : ValidM M) {sh n : Int} {a b c : Nat} (h : AheadQ M sh a b n c) : c < 8 := by
  obtain ⟨D, -, -, -, h4⟩ := h
  have := wIn_le (l := M.reads) (D := D) (P := fun x => decide ((a : Int) < x ∧ x ≤ b))
  have := hM.nr
  omega
theorem before_c {M : Mt} (hM : ValidM M) {sh n : Int} {a b c : Nat} (h : BeforeQ M sh a b n c) : c < 8 := by
  obtain ⟨D, -, -, -, h4⟩ := h
  have := wIn_le (l := M.reads) (D := D) (P := fun x => decide ((a : Int) ≤ x ∧ x < b))
  have := hM.nr
  omega

/-- How many readings are wrong at the least, ahead. -/
def fewA (M : Mt) (a b : Nat) (sh : Int) : Int := fewL (aheadL M a sh (b - a))
def fewB (M : Mt) (b : Nat) (sh : Int) : Int := fewL (beforeL M b sh b)

theorem fewA_law {M : Mt} (hM : ValidM M) {sh : Int} (h0 : 0 ≤ sh) (h1 : sh < 100) {a b : Nat} (hab : a ≤ b) (hb : b ≤ M.weeks.length) :
    0 ≤ fewA M a b sh ∧ (∀ n c, AheadQ M sh a b n c → fewA M a b sh ≤ c) ∧ ∃ n : Nat, AheadQ M sh a b n (fewA M a b sh).toNat := by
  have hs := ahead_stands hM h0 h1 (a := a) (b - a) (by omega)
  rw [show a + (b - a) = b by omega] at hs
  obtain ⟨n, c, hc, hq⟩ := ahead_ex hM h0 h1 (a := a) hb
  obtain ⟨p1, -, m, p3⟩ := fewL_stands hs hc hq
  refine ⟨p1, fun n' c' hq' => ?_, m, p3⟩
  have hn := ahead_bound hM hq' hab hb
  exact (fewL_stands hs (ahead_c hM hq') (n := n'.toNat) (by rw [Int.toNat_of_nonneg hn.1]; exact hq')).2.1
theorem fewB_law {M : Mt} (hM : ValidM M) {sh : Int} (h0 : 0 ≤ sh) (h1 : sh < 100) {b : Nat} (hb : b ≤ M.weeks.length) :
    0 ≤ fewB M b sh ∧ (∀ n c, BeforeQ M sh 0 b n c → fewB M b sh ≤ c) ∧ ∃ n : Nat, BeforeQ M sh 0 b n (fewB M b sh).toNat := by
  have hs := before_stands hM h0 h1 hb b (Nat.le_refl _)
  rw [Nat.sub_self] at hs
  obtain ⟨n, c, hc, hq⟩ := before_ex hM h0 h1 (a := 0) hb
  obtain ⟨p1, -, m, p3⟩ := fewL_stands hs hc hq
  refine ⟨p1, fun n' c' hq' => ?_, m, p3⟩
  have hn := before_bound hM hq' (Nat.zero_le _) hb
  exact (fewL_stands hs (before_c hM hq') (n := n'.toNat) (by rw [Int.toNat_of_nonneg hn.1]; exact hq')).2.1

/-- How many readings are wrong at the least, if the meter shows a number when some weeks are over. -/
def wrongsN (M : Mt) (a : Nat) (sh : Int) : Int := fewB M a sh + fewA M a M.weeks.length sh + hereW M a sh

theorem wrongs_law {M : Mt} (hM : ValidM M) {sh : Int} (h0 : 0 ≤ sh) (h1 : sh < 100) {a : Nat} (ha : a ≤ M.weeks.length) :
    (∀ D, Seg M D 0 M.weeks.length → D a % 100 = sh → wrongsN M a sh ≤ Wd M D) ∧ ∃ D, Seg M D 0 M.weeks.length ∧ D a % 100 = sh ∧ (Wd M D : Int) = wrongsN M a sh := by
  obtain ⟨a1, a2, n2, a3⟩ := fewA_law hM h0 h1 ha (Nat.le_refl _)
  obtain ⟨b1, b2, n1, b3⟩ := fewB_law hM h0 h1 ha
  have z := fun c => ahead_zero (M := M) (sh := sh) (n := 0) (a := a) (c := c) (by omega)
  constructor
  · intro D h2 h3
    obtain ⟨c0, c1, c2, q1, q2, q3, q4⟩ := (truth_parts hM (n0 := D a - D 0) (n1 := 0) (n2 := D M.weeks.length - D a) (sh := sh) (c := Wd M D) (Nat.le_refl a) ha).1 ⟨D, ⟨h2, rfl⟩, h3, rfl, by omega, rfl⟩
    rw [show (sh + 0) % 100 = sh by omega] at q3
    have e1 := b2 _ _ q1
    have e2 := a2 _ _ q3
    unfold wrongsN
    omega
  · obtain ⟨D, ⟨p1, p2⟩, p3, -⟩ := (truth_parts hM (n0 := n1) (n1 := 0) (n2 := n2) (sh := sh) (c := (fewB M a sh).toNat + hereW M a sh + 0 + (fewA M a M.weeks.length sh).toNat) (Nat.le_refl a) ha).2 ⟨_, 0, _, b3, (z 0).2 ⟨rfl, rfl⟩, by rw [show (sh + 0) % 100 = sh by omega]; exact a3, rfl⟩
    refine ⟨D, p1, p3, ?_⟩
    rw [p2]
    unfold wrongsN
    omega

/-- The least number of readings that are wrong. -/
def leastN (M : Mt) : Int := (List.range 100).foldl (fun b (s : Nat) => min b (wrongsN M 0 s)) M.reads.length

theorem foldmin {f : Nat → Int} : ∀ (l : List Nat) (b : Int), (l.foldl (fun b s => min b (f s)) b ≤ b ∧ ∀ s ∈ l, l.foldl (fun b s => min b (f s)) b ≤ f s) ∧ (l.foldl (fun b s => min b (f s)) b = b ∨ ∃ s ∈ l, l.foldl (fun b s => min b (f s)) b = f s) := by
  intro l
  induction l with
  | nil => intro b; exact ⟨⟨Int.le_refl _, fun s h => by cases h⟩, Or.inl rfl⟩
  | cons x l ih =>
    intro b
    rw [List.foldl_cons]
    obtain ⟨⟨h1, h2⟩, h3⟩ := ih (min b (f x))
    refine ⟨⟨by omega, fun s hs => ?_⟩, ?_⟩
    · rcases List.mem_cons.1 hs with rfl | hs
      · omega
      · exact h2 s hs
    · rcases h3 with h3 | ⟨s, hs, h3⟩
      · rcases Int.le_total b (f x) with h4 | h4
        · exact Or.inl (by omega)
        · exact Or.inr ⟨x, List.mem_cons_self, by omega⟩
      · exact Or.inr ⟨s, List.mem_cons_of_mem _ hs, h3⟩

theorem least_law {M : Mt} (hM : ValidM M) : (∀ D, Seg M D 0 M.weeks.length → leastN M ≤ Wd M D) ∧ ∃ D, Seg M D 0 M.weeks.length ∧ (Wd M D : Int) = leastN M := by
  have key := foldmin (f := fun s => wrongsN M 0 s) (List.range 100) M.reads.length
  have h1 : ∀ D, Seg M D 0 M.weeks.length → leastN M ≤ Wd M D := by
    intro D h
    have h3 := (wrongs_law hM (sh := D 0 % 100) (by omega) (by omega) (Nat.zero_le _)).1 D h rfl
    have h4 := key.1.2 (D 0 % 100).toNat (List.mem_range.2 (by omega))
    rw [Int.toNat_of_nonneg (by omega)] at h4
    unfold leastN
    omega
  refine ⟨h1, ?_⟩
  rcases key.2 with h | ⟨s, hs, h⟩
  · obtain ⟨D, p1, -, p3⟩ := (wrongs_law hM (sh := 0) (by omega) (by omega) (Nat.zero_le _)).2
    refine ⟨D, p1, ?_⟩
    have h2 := h1 D p1
    have h3 : Wd M D ≤ M.reads.length := wIn_le
    unfold leastN at *
    omega
  · rw [List.mem_range] at hs
    obtain ⟨D, p1, -, p3⟩ := (wrongs_law hM (sh := (s : Int)) (by omega) (by omega) (Nat.zero_le _)).2
    exact ⟨D, p1, by unfold leastN; rw [h]; exact p3⟩
theorem hasT_iff {M : Mt} (hM : ValidM M) : leastN M ≤ M.wrong ↔ ∃ D, Tru M D := by
  obtain ⟨h1, D, h2, h3⟩ := least_law hM
  constructor
  · intro h; exact ⟨D, h2, by omega⟩
  · rintro ⟨E, h4, h5⟩
    have := h1 E h4
    omega
theorem shows_iff {M : Mt} (hM : ValidM M) {sh : Int} (h0 : 0 ≤ sh) (h1 : sh < 100) {a : Nat} (ha : a ≤ M.weeks.length) : wrongsN M a sh ≤ M.wrong ↔ ∃ D, Tru M D ∧ D a % 100 = sh := by
  obtain ⟨p, D, q1, q2, q3⟩ := wrongs_law hM h0 h1 ha
  constructor
  · intro h; exact ⟨D, ⟨q1, by omega⟩, q2⟩
  · rintro ⟨E, ⟨h2, h3⟩, h4⟩
    have := p E h2 h4
    omega

def canN (M : Mt) (r : Int × Int) (right : Bool) : Bool := (List.range 100).any (fun s => (decide ((s : Int) = r.2) == right) && decide (wrongsN M r.1.toNat s ≤ M.wrong))
theorem can_iff {M : Mt} (hM : ValidM M) {r : Int × Int} (hr : r ∈ M.reads) {right : Bool} : canN M r right = true ↔ ∃ D, Tru M D ∧ decide (D r.1.toNat % 100 = r.2) = right := by
  obtain ⟨r1, r2, r3, r4⟩ := hM.read r hr
  unfold canN
  rw [List.any_eq_true]
  constructor
  · rintro ⟨s, hs, h⟩
    rw [List.mem_range] at hs
    rw [Bool.and_eq_true, beq_iff_eq, decide_eq_true_eq] at h
    obtain ⟨D, h2, h3⟩ := (shows_iff hM (by omega) (by omega) (by omega)).1 h.2
    exact ⟨D, h2, by rw [h3]; exact h.1⟩
  · rintro ⟨D, h2, h3⟩
    refine ⟨(D r.1.toNat % 100).toNat, List.mem_range.2 (by omega), ?_⟩
    rw [Bool.and_eq_true, beq_iff_eq, decide_eq_true_eq, Int.toNat_of_nonneg (by omega)]
    exact ⟨h3, (shows_iff hM (by omega) (by omega) (by omega)).2 ⟨D, h2, rfl⟩⟩

/-! Sums. -/
def sumsN (M : Mt) (a b : Nat) (sh : Int) (ends : Nat → Int) : Nat :=
  (List.range 100).foldl (fun out (rest : Nat) => (List.range 8).foldl (fun out (c : Nat) => if fewB M a sh + hereW M a sh + ends (modI (sh + rest)) + c ≤ M.wrong then out ||| ((aheadL M a sh (b - a)).getD c 0 &&& maskN rest) else out) out) 0
def betweenN (M : Mt) (a b : Nat) : Nat := (List.range 100).foldl (fun out (s : Nat) => out ||| sumsN M a b s (fun e => fewA M b M.weeks.length e)) 0

theorem testBit_foldif {q : Nat → Bool} {f : Nat → Nat} {k : Nat} : ∀ (l : List Nat) (a : Nat), (l.foldl (fun a i => if q i = true then a ||| f i else a) a).testBit k = (a.testBit k || l.any (fun i => q i && (f i).testBit k)) := by
  intro l
  induction l with
  | nil => intro a; simp
  | cons x l ih =>
    intro a
    rw [List.foldl_cons, ih, List.any_cons]
    cases hq : q x
    · simp
    · simp only [if_true, Nat.testBit_or, Bool.true_and, Bool.or_assoc]
theorem testBit_fold2 {g : Nat → Nat → Nat} {t : Nat → Bool} {k : Nat} (hg : ∀ i a, (g a i).testBit k = (a.testBit k || t i)) : ∀ (l : List Nat) (a : Nat), (l.foldl g a).testBit k = (a.testBit k || l.any t) := by
  intro l
  induction l with
  | nil => intro a; simp
  | cons x l ih => intro a; rw [List.foldl_cons, ih, hg, List.any_cons, Bool.or_assoc]

theorem sums_law {M : Mt} (hM : ValidM M) {sh : Int} (h0 : 0 ≤ sh) (h1 : sh < 100) {a b : Nat} (hab : a ≤ b) (hb : b ≤ M.weeks.length) {n : Nat} :
    (sumsN M a b sh (fun e => fewA M b M.weeks.length e)).testBit n = true ↔ ∃ D, Tru M D ∧ D a % 100 = sh ∧ D b - D a = n := by
  have hs := ahead_stands hM h0 h1 (a := a) (b - a) (by omega)
  rw [show a + (b - a) = b by omega] at hs
  obtain ⟨b1, b2, n1, b3⟩ := fewB_law hM h0 h1 (b := a) (by omega)
  unfold sumsN
  rw [testBit_fold2 (t := fun rest => (List.range 8).any (fun c => decide (fewB M a sh + hereW M a sh + fewA M b M.weeks.length (modI (sh + rest)) + c ≤ M.wrong) && (((aheadL M a sh (b - a)).getD c 0) &&& maskN rest).testBit n)) (fun rest out => by
    have := testBit_foldif (q := fun (c : Nat) => decide (fewB M a sh + hereW M a sh + fewA M b M.weeks.length (modI (sh + rest)) + c ≤ M.wrong)) (f := fun c => ((aheadL M a sh (b - a)).getD c 0) &&& maskN rest) (k := n) (List.range 8) out
    simp only [decide_eq_true_eq] at this
    exact this), Nat.zero_testBit, Bool.false_or]
  simp only [List.any_eq_true, List.mem_range, Bool.and_eq_true, decide_eq_true_eq, Nat.testBit_and]
  constructor
  · rintro ⟨rest, hr, c, hc, h2, h3, h4⟩
    rw [testBit_maskN hr, Bool.and_eq_true, decide_eq_true_eq, decide_eq_true_eq] at h4
    have e : ((modI (sh + rest) : Nat) : Int) = (sh + n) % 100 := by unfold modI; omega
    rw [e] at h2
    obtain ⟨a1, a2, n2, a3⟩ := fewA_law hM (sh := (sh + n) % 100) (by omega) (by omega) hb (Nat.le_refl _)
    obtain ⟨D, ⟨p1, p2⟩, p3, p4, p5, p6⟩ := (truth_parts hM (n0 := n1) (n1 := n) (n2 := n2) (sh := sh) hab hb).2 ⟨_, c, _, b3, (hs.2 c hc n).1 h3, a3, rfl⟩
    refine ⟨D, ⟨p1, ?_⟩, p3, p5⟩
    rw [p2]
    omega
  · rintro ⟨D, ⟨p1, p2⟩, p3, p4⟩
    obtain ⟨c0, c1, c2, q1, q2, q3, q4⟩ := (truth_parts hM (sh := sh) (c := Wd M D) hab hb).1 ⟨D, ⟨p1, rfl⟩, p3, rfl, p4, rfl⟩
    have hn := ahead_bound hM q2 hab hb
    have h5 := hM.nw
    refine ⟨n % 100, by omega, c1, ahead_c hM q2, ?_, (hs.2 c1 (ahead_c hM q2) n).2 q2, ?_⟩
    · have e : ((modI (sh + ((n % 100 : Nat) : Int)) : Nat) : Int) = (sh + n) % 100 := by unfold modI; omega
      rw [e]
      obtain ⟨a1, a2, n2, a3⟩ := fewA_law hM (sh := (sh + n) % 100) (by omega) (by omega) hb (Nat.le_refl _)
      have e1 := b2 _ _ q1
      have e2 := a2 _ _ q3
      omega
    · rw [testBit_maskN (by omega)]
      simp; omega

theorem between_law {M : Mt} (hM : ValidM M) {a b : Nat} (hab : a ≤ b) (hb : b ≤ M.weeks.length) {n : Nat} : (betweenN M a b).testBit n = true ↔ ∃ D, Tru M D ∧ D b - D a = n := by
  unfold betweenN
  rw [testBit_fold, Nat.zero_testBit, Bool.false_or]
  simp only [List.any_eq_true, List.mem_range]
  constructor
  · rintro ⟨s, hs, h⟩
    obtain ⟨D, h1, -, h3⟩ := (sums_law hM (by omega) (by omega) hab hb).1 h
    exact ⟨D, h1, h3⟩
  · rintro ⟨D, h1, h3⟩
    refine ⟨(D a % 100).toNat, by omega, ?_⟩
    rw [Int.toNat_of_nonneg (by omega)]
    exact (sums_law hM (by omega) (by omega) hab hb).2 ⟨D, h1, rfl, h3⟩

theorem tru_bound {M : Mt} (hM : ValidM M) {D : Nat → Int} (hD : Tru M D) {a b : Nat} (hab : a ≤ b) (hb : b ≤ M.weeks.length) : 0 ≤ D b - D a ∧ D b - D a ≤ 1500 := by
  have h1 := ahead_bound hM (sh := D a % 100) (c := _) ⟨D, rfl, fun i h h' => hD.1 i (by omega) (by omega), rfl, rfl⟩ hab hb
  have := hM.nw
  omega

/-- The sums of the weeks from one up to another one, ascending. -/
def sumsL (M : Mt) (a b : Nat) : List Nat := bitsN (betweenN M a b)
theorem mem_sumsL {M : Mt} (hM : ValidM M) {a b : Nat} (hab : a ≤ b) (hb : b ≤ M.weeks.length) {n : Nat} : n ∈ sumsL M a b ↔ ∃ D, Tru M D ∧ D b - D a = n := by
  unfold sumsL
  rw [mem_bitsN, between_law hM hab hb]
  constructor
  · exact fun h => h.2
  · rintro ⟨D, h1, h2⟩
    have := tru_bound hM h1 hab hb
    exact ⟨by omega, D, h1, h2⟩

/-! Totals, if the meter shows a number when some weeks are over. -/
end Go.Proofs.Ytppncdbhebgcaaa
namespace Go.Proofs.Ytppncdbhebgcaaa
/-- The least and the greatest number of some kind. -/
def SpanOf (S : Int → Prop) (lo hi : Int) : Prop := S lo ∧ S hi ∧ ∀ x, S x → lo ≤ x ∧ x ≤ hi
theorem SpanOf.uniq {S : Int → Prop} {a b c d : Int} (h : SpanOf S a b) (h' : SpanOf S c d) : a = c ∧ b = d := by
  have h1 := h.2.2 c h'.1
  have h2 := h.2.2 d h'.2.1
  have h3 := h'.2.2 a h.1
  have h4 := h'.2.2 b h.2.1
  omega
theorem SpanOf.le {S : Int → Prop} {a b : Int} (h : SpanOf S a b) : a ≤ b := (h.2.2 a h.1).2

def PlaysP (M : Mt) (a b : Nat) (x : Int) : Prop := ∃ D, Tru M D ∧ D b - D a = x
def ShownP (M : Mt) (a : Nat) (x : Int) : Prop := ∃ D, Tru M D ∧ D a % 100 = x

/-- A list that rises. -/
theorem bitsN_rises (S : Nat) : (bitsN S).Pairwise (· < ·) := by
  unfold bitsN
  exact List.Pairwise.filter _ (List.pairwise_lt_range)

theorem span_of_list {l : List Nat} (h : l.Pairwise (· < ·)) (hl : l ≠ []) : (l.headD 0 ∈ l ∧ l.getLastD 0 ∈ l) ∧ ∀ x ∈ l, l.headD 0 ≤ x ∧ x ≤ l.getLastD 0 := by
  cases l with
  | nil => exact absurd rfl hl
  | cons a l =>
    have hlast : (a :: l).getLastD 0 = (a :: l).getLast (by simp) := by simp [List.getLastD]
    refine ⟨⟨List.mem_cons_self, by rw [hlast]; exact List.getLast_mem _⟩, fun x hx => ⟨?_, ?_⟩⟩
    · rcases List.mem_cons.1 hx with rfl | hx
      · exact Nat.le_refl _
      · exact Nat.le_of_lt ((List.pairwise_cons.1 h).1 x hx)
    · rw [hlast]
      obtain ⟨i, hi, rfl⟩ := List.getElem_of_mem hx
      rw [List.getLast_eq_getElem]
      by_cases e : i = (a :: l).length - 1
      · simp only [e]; exact Nat.le_refl _
      · exact Nat.le_of_lt (List.pairwise_iff_getElem.1 h i _ hi (by omega) (by omega))

theorem week_span_of {M : Mt} (hM : ValidM M) {a b : Nat} (hab : a ≤ b) (hb : b ≤ M.weeks.length) (hT : ∃ D, Tru M D) : sumsL M a b ≠ [] ∧ SpanOf (PlaysP M a b) ((sumsL M a b).headD 0 : Nat) ((sumsL M a b).getLastD 0 : Nat) := by
  obtain ⟨D, hD⟩ := hT
  have hne : sumsL M a b ≠ [] := by
    intro e
    have hb' := tru_bound hM hD hab hb
    have : (D b - D a).toNat ∈ sumsL M a b := (mem_sumsL hM hab hb).2 ⟨D, hD, by omega⟩
    rw [e] at this; cases this
  obtain ⟨⟨h1, h2⟩, h3⟩ := span_of_list (bitsN_rises _) hne
  refine ⟨hne, (mem_sumsL hM hab hb).1 h1, (mem_sumsL hM hab hb).1 h2, ?_⟩
  rintro x ⟨E, hE, rfl⟩
  have hb' := tru_bound hM hE hab hb
  have h4 := h3 (E b - E a).toNat ((mem_sumsL hM hab hb).2 ⟨E, hE, by omega⟩)
  exact ⟨by have := h4.1; unfold sumsL at *; omega, by have := h4.2; unfold sumsL at *; omega⟩

/-- What the meter can show. -/
def showsL (M : Mt) (a : Nat) : List Nat := (List.range 100).filter (fun s => decide (wrongsN M a (s : Nat) ≤ M.wrong))
/-! One meter's truths as another's. -/
structure To (M N : Mt) (T : (Nat → Int) → (Nat → Int)) : Prop where
  seg : ∀ D, Seg M D 0 M.weeks.length → Seg N (T D) 0 N.weeks.length
  wrong : ∀ D, Seg M D 0 M.weeks.length → Wd N (T D) = Wd M D
theorem To.tru {M N : Mt} {T : (Nat → Int) → (Nat → Int)} (h : To M N T) (hw : M.wrong = N.wrong) {D : Nat → Int} (hD : Tru M D) : Tru N (T D) := ⟨h.seg D hD.1, by rw [h.wrong D hD.1, ← hw]; exact hD.2⟩
theorem least_to {M N : Mt} (hM : ValidM M) (hN : ValidM N) {T : (Nat → Int) → (Nat → Int)} (h : To M N T) : leastN N ≤ leastN M := by
  obtain ⟨-, D, h1, h2⟩ := least_law hM
  have := (least_law hN).1 _ (h.seg D h1)
  rw [h.wrong D h1] at this
  omega
end Go.Proofs.Ytppncdbhebgcaaa
