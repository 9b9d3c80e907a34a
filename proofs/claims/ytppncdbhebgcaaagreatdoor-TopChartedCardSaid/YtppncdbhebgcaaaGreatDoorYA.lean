
/- Trays: the data, and the walks of the reference's IsSide, IsTime, presses, Check. Trays: the walks of the reference's presses and Check. The carriage of a tray: what it does at a position, and that it stands still in the end: plain law, without a program. Trays: the walks of isSide, isTime, Check (of a valid tray), last. Trays: a carriage in memory. Trays: the walk of mark. Trays: the walks of next and press of a carriage. Trays: the walks of press of a carriage. Trays: the walk of act of a carriage. Trays: the walk of act of a carriage. Presses sorted by their times: insertion sort. Presses copied. -/
import Derived.Test.YtppncdbhebgcaaaGreatDoorXK
import Derived.Test.YtppncdbhebgcaaaGreatDoorVA
import Derived.Test.YtppncdbhebgcaaaGreatDoorCD
import Derived.Deep.AppendLies
namespace Go.Proofs.YtppncdbhebgcaaaGreatDoor
open Go.RowKit

structure TrayD where
  recs : List (Int × Int)
  at_ : Int
  way : Int
  step : Int
  prs : List (Int × Int)
/-- a tray -/
def TyV (w : World) (v : Value) (T : TrayD) : Prop := ∃ p c q d, v = .agg #[.slice p T.recs.length c, .int .i64 T.at_, .int .i64 T.way, .int .i64 T.step, .slice q T.prs.length d] ∧ PairsAt w p T.recs ∧ PairsAt w q T.prs
theorem TyV.ext {w w' : World} {v : Value} {T : TrayD} (h : TyV w v T) (hE : Ext w w') : TyV w' v T := by
  obtain ⟨p, c, q, d, e, h1, h2⟩ := h
  exact ⟨p, c, q, d, e, h1.ext hE, h2.ext hE⟩
def headY (T : TrayD) : Bool := decide (1 ≤ T.recs.length) && (decide (T.recs.length ≤ 6) && (decide (0 ≤ T.at_) && (decide (T.at_ < T.recs.length) && ((decide (T.way = 1) || decide (T.way = -1)) && (decide (0 ≤ T.step) && decide (T.step ≤ 60))))))
def recB (r : Int × Int) : Bool := decide (1 ≤ r.1 ∧ r.1 ≤ 999) && decide (1 ≤ r.2 ∧ r.2 ≤ 999)
def sideB (n : Nat) (s : Int) : Bool := decide (0 ≤ s ∧ s ≤ 2 * (n : Int) - 1)
def timeB (t : Int) : Bool := decide (0 ≤ t ∧ t ≤ 9999)
def prB (n : Nat) (x : Int × Int) : Bool := sideB n x.1 && timeB x.2
def prsB (T : TrayD) : Bool := decide (T.prs.length ≤ 12) && T.prs.all (prB T.recs.length)
def okY (T : TrayD) : Bool := headY T && (T.recs.all recB && prsB T)
structure ValidY (T : TrayD) : Prop where
  n1 : 1 ≤ T.recs.length
  n6 : T.recs.length ≤ 6
  a0 : 0 ≤ T.at_
  an : T.at_ < T.recs.length
  wy : T.way = 1 ∨ T.way = -1
  s0 : 0 ≤ T.step
  s1 : T.step ≤ 60
  rc : ∀ r ∈ T.recs, 1 ≤ r.1 ∧ r.1 ≤ 999 ∧ 1 ≤ r.2 ∧ r.2 ≤ 999
  np : T.prs.length ≤ 12
  pr : ∀ x ∈ T.prs, (0 ≤ x.1 ∧ x.1 < 2 * (T.recs.length : Int)) ∧ 0 ≤ x.2 ∧ x.2 ≤ 9999
end Go.Proofs.YtppncdbhebgcaaaGreatDoor
namespace Go.Proofs.YtppncdbhebgcaaaGreatDoor
open Go.RowKit

end Go.Proofs.YtppncdbhebgcaaaGreatDoor
namespace Go.Proofs.YtppncdbhebgcaaaGreatDoor

structure Car where
  queue : List (Int × Int)
  pins : List Bool
  now : Int
  pos : Int
  way : Int
  plays : List (Int × Int)
/-- all pins up to now are set -/
def pressL (now : Int) : List (Int × Int) → List Bool → List (Int × Int) × List Bool
  | [], p => ([], p)
  | (s, t) :: q, p => if t ≤ now then pressL now q (p.set s.toNat true) else ((s, t) :: q, p)
def sideC (c : Car) : Int := if c.way < 0 then 2 * c.pos + 1 else 2 * c.pos
def lastC (R : List (Int × Int)) (s : Int) : Int := if s.tmod 2 = 0 then (R.getD (s.tdiv 2).toNat (0, 0)).1 else (R.getD (s.tdiv 2).toNat (0, 0)).2
def playC (R : List (Int × Int)) (c : Car) : Car :=
  if c.pins.getD (sideC c).toNat false then { c with pins := c.pins.set (sideC c).toNat false, plays := c.plays ++ [(sideC c, c.now)], now := c.now + lastC R (sideC c) } else c
def nextC (n : Nat) (st : Int) (c : Car) : Car :=
  if 0 ≤ c.pos + c.way ∧ c.pos + c.way < n then { c with pos := c.pos + c.way, now := c.now + st } else { c with way := -c.way }
def pressC (c : Car) : Car := { c with queue := (pressL c.now c.queue c.pins).1, pins := (pressL c.now c.queue c.pins).2 }
def actC (R : List (Int × Int)) (st : Int) (c : Car) : Car × Bool :=
  if (pressC c).pins.any id then (nextC R.length st (playC R (pressC c)), true) else
    match (pressC c).queue with
    | [] => (pressC c, false)
    | x :: _ => ({ pressC c with now := x.2 }, true)
def runC (R : List (Int × Int)) (st : Int) : Nat → Car → Car
  | 0, c => c
  | f + 1, c => if (actC R st c).2 then runC R st f (actC R st c).1 else (actC R st c).1
structure CarOK (n : Nat) (N : Nat) (c : Car) : Prop where
  pl : c.pins.length = 2 * n
  p0 : 0 ≤ c.pos
  pn : c.pos < n
  wy : c.way = 1 ∨ c.way = -1
  qs : ∀ x ∈ c.queue, 0 ≤ x.1 ∧ x.1 < 2 * n ∧ 0 ≤ x.2 ∧ x.2 ≤ 9999
  ps : ∀ x ∈ c.plays, 0 ≤ x.1 ∧ x.1 < 2 * n
  cnt : c.plays.length + c.queue.length + c.pins.countP id ≤ N
/-- positions, as they come one after another -/
def cyc (n : Nat) (c : Car) : Nat := if c.way < 0 then 2 * n - 1 - c.pos.toNat else c.pos.toNat
def sideOf (n k : Nat) : Nat := if k < n then 2 * k else 2 * (2 * n - 1 - k) + 1
def pinAt (n : Nat) (c : Car) (m : Nat) : Prop := c.pins.getD (sideOf n ((cyc n c + m) % (2 * n))) false = true
def Bd (n : Nat) (c : Car) (X : Nat) : Prop :=
  ∃ m, (2 * c.queue.length + c.pins.countP id) * (2 * n + 2) + m ≤ X ∧ ((m < 2 * n ∧ pinAt n c m) ∨ (c.pins.countP id = 0 ∧ 1 ≤ m) ∨ (c.pins.countP id = 0 ∧ ∀ x, c.queue.head? = some x → x.2 ≤ c.now))
theorem Bd.mono {n : Nat} {c : Car} {X Y : Nat} (h : Bd n c X) (hXY : X ≤ Y) : Bd n c Y := by
  obtain ⟨m, h1, h2⟩ := h
  exact ⟨m, by omega, h2⟩
theorem count_set_true : ∀ (p : List Bool) (i : Nat), (p.set i true).countP id ≤ p.countP id + 1 := by
  intro p
  induction p with
  | nil => intro i; simp
  | cons a p ih =>
    intro i
    cases i with
    | zero => rw [List.set_cons_zero, List.countP_cons, List.countP_cons]; cases a <;> simp
    | succ i =>
      have := ih i
      rw [List.set_cons_succ, List.countP_cons, List.countP_cons]
      omega
theorem count_set_false : ∀ (p : List Bool) (i : Nat), p.getD i false = true → (p.set i false).countP id + 1 = p.countP id := by
  intro p
  induction p with
  | nil => intro i h; simp at h
  | cons a p ih =>
    intro i h
    cases i with
    | zero =>
      have : a = true := by simpa using h
      subst this
      rw [List.set_cons_zero, List.countP_cons, List.countP_cons]
      simp
    | succ i =>
      have := ih i (by simpa using h)
      rw [List.set_cons_succ, List.countP_cons, List.countP_cons]
      omega
theorem count_pos_set (p : List Bool) (i : Nat) (h : i < p.length) : 1 ≤ (p.set i true).countP id := by
  have : 0 < (p.set i true).countP id := List.countP_pos_iff.2 ⟨true, List.mem_of_getElem? (i := i) (by rw [List.getElem?_set_self h]), rfl⟩
  exact this
theorem any_count (p : List Bool) : p.any id = true ↔ 1 ≤ p.countP id := by
  rw [List.any_eq_true, show (1 ≤ p.countP id) = (0 < p.countP id) from rfl, List.countP_pos_iff]
theorem press_mono (now : Int) : ∀ (q : List (Int × Int)) (p : List Bool), p.countP id ≤ (pressL now q p).2.countP id ∧ (pressL now q p).2.length = p.length := by
  intro q
  induction q with
  | nil => intro p; exact ⟨Nat.le_refl _, rfl⟩
  | cons x q ih =>
    intro p
    unfold pressL
    split
    · have h1 := ih (p.set x.1.toNat true)
      have h2 : p.countP id ≤ (p.set x.1.toNat true).countP id := by
        have key : ∀ (p : List Bool) (i : Nat), p.countP id ≤ (p.set i true).countP id := by
          intro p
          induction p with
          | nil => intro i; simp
          | cons a p ih =>
            intro i
            cases i with
            | zero => rw [List.set_cons_zero, List.countP_cons, List.countP_cons]; cases a <;> simp
            | succ i =>
              have := ih i
              rw [List.set_cons_succ, List.countP_cons, List.countP_cons]
              omega
        exact key _ _
      exact ⟨by omega, by rw [h1.2, List.length_set]⟩
    · exact ⟨Nat.le_refl _, rfl⟩
theorem press_law (now : Int) {n : Nat} : ∀ (q : List (Int × Int)) (p : List Bool), p.length = 2 * n → (∀ x ∈ q, 0 ≤ x.1 ∧ x.1 < 2 * n) →
    (pressL now q p = (q, p) ∧ ∀ x, q.head? = some x → now < x.2) ∨ (2 * (pressL now q p).1.length + (pressL now q p).2.countP id + 1 ≤ 2 * q.length + p.countP id ∧ 1 ≤ (pressL now q p).2.countP id) := by
  intro q
  induction q with
  | nil => intro p _ _; exact Or.inl ⟨rfl, fun x hx => by cases hx⟩
  | cons x q ih =>
    intro p hl hq
    unfold pressL
    by_cases c : x.2 ≤ now
    · rw [if_pos c]
      have hx := hq x List.mem_cons_self
      have h1 := count_set_true p x.1.toNat
      have h2 := count_pos_set p x.1.toNat (by omega)
      have h3 := press_mono now q (p.set x.1.toNat true)
      right
      rcases ih (p.set x.1.toNat true) (by rw [List.length_set]; exact hl) (fun y hy => hq y (List.mem_cons_of_mem _ hy)) with ⟨h, -⟩ | ⟨h, h'⟩
      · rw [h, List.length_cons]
        exact ⟨by simp only; omega, h2⟩
      · rw [List.length_cons]
        exact ⟨by omega, by omega⟩
    · rw [if_neg c]
      exact Or.inl ⟨rfl, fun y hy => by cases hy; omega⟩
theorem press_sub (now : Int) : ∀ (q : List (Int × Int)) (p : List Bool), (∀ x ∈ (pressL now q p).1, x ∈ q) ∧ (pressL now q p).1.length + (pressL now q p).2.countP id ≤ q.length + p.countP id := by
  intro q
  induction q with
  | nil => intro p; exact ⟨fun x hx => hx, Nat.le_refl _⟩
  | cons x q ih =>
    intro p
    unfold pressL
    split
    · have h1 := ih (p.set x.1.toNat true)
      have h2 := count_set_true p x.1.toNat
      exact ⟨fun y hy => List.mem_cons_of_mem _ (h1.1 y hy), by rw [List.length_cons]; omega⟩
    · exact ⟨fun y hy => hy, Nat.le_refl _⟩
section
variable {n N : Nat} {c : Car}
theorem CarOK.press (h : CarOK n N c) : CarOK n N (pressC c) := by
  have h1 := press_sub c.now c.queue c.pins
  exact ⟨by show (pressL _ _ _).2.length = _; rw [(press_mono _ _ _).2]; exact h.pl, h.p0, h.pn, h.wy, fun x hx => h.qs x (h1.1 x hx), h.ps, by have := h.cnt; have h2 := h1.2; show c.plays.length + (pressL _ _ _).1.length + (pressL _ _ _).2.countP id ≤ N; omega⟩
theorem side_cyc (h : CarOK n N c) : sideC c = sideOf n (cyc n c) ∧ cyc n c < 2 * n := by
  have := h.p0; have := h.pn
  unfold sideC sideOf cyc
  rcases h.wy with e | e
  · rw [e]
    have h1 : ¬(1 : Int) < 0 := by decide
    simp only [h1, if_false]
    rw [if_pos (by omega)]
    omega
  · rw [e]
    have h1 : (-1 : Int) < 0 := by decide
    simp only [h1, if_true]
    rw [if_neg (by omega)]
    omega
theorem CarOK.play (h : CarOK n N c) (R : List (Int × Int)) : CarOK n N (playC R c) := by
  unfold playC
  split
  · next hp =>
    have h1 := count_set_false _ _ hp
    have h2 := side_cyc h
    have h3 : sideOf n (cyc n c) < 2 * n := by unfold sideOf; split <;> omega
    exact ⟨by rw [List.length_set]; exact h.pl, h.p0, h.pn, h.wy, h.qs, fun x hx => by
      rcases List.mem_append.1 hx with e | e
      · exact h.ps x e
      · rw [List.mem_singleton.1 e]
        exact ⟨by show 0 ≤ sideC c; omega, by show sideC c < _; omega⟩, by have := h.cnt; rw [List.length_append, List.length_singleton]; simp only; omega⟩
  · exact h
theorem CarOK.next (h : CarOK n N c) (st : Int) : CarOK n N (nextC n st c) := by
  unfold nextC
  split
  · next hp => exact ⟨h.pl, hp.1, hp.2, h.wy, h.qs, h.ps, h.cnt⟩
  · exact ⟨h.pl, h.p0, h.pn, by rcases h.wy with e | e <;> simp [e], h.qs, h.ps, h.cnt⟩
theorem next_cyc (h : CarOK n N c) (st : Int) : cyc n (nextC n st c) = (cyc n c + 1) % (2 * n) := by
  have h0 := h.p0; have hn := h.pn
  unfold nextC cyc
  rcases h.wy with e | e
  · rw [e]
    by_cases c1 : 0 ≤ c.pos + 1 ∧ c.pos + 1 < n
    · rw [if_pos c1]
      simp only
      rw [if_neg (by decide), if_neg (by decide), Nat.mod_eq_of_lt (by omega)]
      omega
    · rw [if_neg c1]
      simp only
      rw [if_pos (by decide), if_neg (by decide), Nat.mod_eq_of_lt (by omega)]
      omega
  · rw [e]
    by_cases c1 : 0 ≤ c.pos + -1 ∧ c.pos + -1 < n
    · rw [if_pos c1]
      simp only
      rw [if_pos (by decide), if_pos (by decide), Nat.mod_eq_of_lt (by omega)]
      omega
    · rw [if_neg c1]
      simp only
      rw [if_neg (by decide), if_pos (by decide)]
      have : 2 * n - 1 - c.pos.toNat + 1 = 2 * n := by omega
      rw [this, Nat.mod_self]
      omega
theorem next_same (n : Nat) (st : Int) (c : Car) : (nextC n st c).pins = c.pins ∧ (nextC n st c).queue = c.queue ∧ (nextC n st c).plays = c.plays := by
  unfold nextC; split <;> exact ⟨rfl, rfl, rfl⟩
/-- a pin that is set is met -/
theorem pin_ex (h : CarOK n N c) (hp : 1 ≤ c.pins.countP id) : ∃ m, m < 2 * n ∧ pinAt n c m := by
  obtain ⟨b, hb, hb'⟩ := List.countP_pos_iff.1 (show 0 < c.pins.countP id from hp)
  obtain ⟨s, hs, he⟩ := List.getElem_of_mem hb
  rw [h.pl] at hs
  have hk : ∃ k, k < 2 * n ∧ sideOf n k = s := by
    rcases Nat.mod_two_eq_zero_or_one s with e | e
    · exact ⟨s / 2, by omega, by unfold sideOf; rw [if_pos (by omega)]; omega⟩
    · exact ⟨2 * n - 1 - (s - 1) / 2, by omega, by unfold sideOf; rw [if_neg (by omega)]; omega⟩
  obtain ⟨k, hk1, hk2⟩ := hk
  have hc := (side_cyc h).2
  refine ⟨(k + 2 * n - cyc n c) % (2 * n), Nat.mod_lt _ (by omega), ?_⟩
  unfold pinAt
  have e : (cyc n c + (k + 2 * n - cyc n c) % (2 * n)) % (2 * n) = k := by
    rw [Nat.add_mod_mod, show cyc n c + (k + 2 * n - cyc n c) = k + 2 * n by omega, Nat.add_mod_right, Nat.mod_eq_of_lt hk1]
  rw [e, hk2, List.getD_eq_getElem?_getD, List.getElem?_eq_getElem (by rw [h.pl]; exact hs), he]
  simpa using hb'
/-- each act but the last one brings the end nearer -/
theorem act_bd (h : CarOK n N c) {R : List (Int × Int)} (hR : R.length = n) {st : Int} {X : Nat} (hB : Bd n c X) (ha : (actC R st c).2 = true) : CarOK n N (actC R st c).1 ∧ 1 ≤ X ∧ Bd n (actC R st c).1 (X - 1) := by
  obtain ⟨m, hm, hc⟩ := hB
  have hP := h.press
  have hlaw := press_law c.now (n := n) c.queue c.pins h.pl fun x hx => ⟨(h.qs x hx).1, (h.qs x hx).2.1⟩
  obtain ⟨W, hW⟩ : ∃ W, W = 2 * n + 2 := ⟨_, rfl⟩
  rw [← hW] at hm
  have hmul : ∀ a b : Nat, a + 1 ≤ b → a * W + W ≤ b * W := fun a b hab => by
    have := Nat.mul_le_mul_right W hab
    rwa [Nat.succ_mul] at this
  unfold actC at ha ⊢
  by_cases hany : (pressC c).pins.any id = true
  · rw [if_pos hany]
    simp only
    have hp1 := (any_count _).1 hany
    have hY : ∃ m1, m1 < 2 * n ∧ pinAt n (pressC c) m1 ∧ (2 * (pressC c).queue.length + (pressC c).pins.countP id) * W + m1 ≤ X := by
      rcases hlaw with ⟨he, hh⟩ | ⟨he, hh⟩
      · have e : pressC c = c := by unfold pressC; rw [he]
        rw [e] at hp1 ⊢
        rcases hc with ⟨h1, h2⟩ | ⟨h1, -⟩ | ⟨h1, -⟩
        · exact ⟨m, h1, h2, hm⟩
        · omega
        · omega
      · obtain ⟨m1, h1, h2⟩ := pin_ex hP hp1
        refine ⟨m1, h1, h2, ?_⟩
        have := hmul (2 * (pressC c).queue.length + (pressC c).pins.countP id) (2 * c.queue.length + c.pins.countP id) he
        omega
    obtain ⟨m1, h1, h2, h3⟩ := hY
    obtain ⟨d, hd⟩ : ∃ d, d = pressC c := ⟨_, rfl⟩
    rw [← hd] at hP h2 h3 hp1 ⊢
    have hPl := hP.play R
    have hOK : CarOK n N (nextC R.length st (playC R d)) := by rw [hR]; exact hPl.next st
    obtain ⟨q1, q2, q3⟩ := next_same n st (playC R d)
    rw [hR] at hOK ⊢
    refine ⟨hOK, ?_⟩
    by_cases hpin : d.pins.getD (sideC d).toNat false = true
    · have e : playC R d = { d with pins := d.pins.set (sideC d).toNat false, plays := d.plays ++ [(sideC d, d.now)], now := d.now + lastC R (sideC d) } := by unfold playC; rw [if_pos hpin]
      have h4 := count_set_false _ _ hpin
      have e1 : (nextC n st (playC R d)).pins.countP id + 1 = d.pins.countP id := by rw [q1, e]; exact h4
      have e2 : (nextC n st (playC R d)).queue.length = d.queue.length := by rw [q2, e]
      have := hmul (2 * (nextC n st (playC R d)).queue.length + (nextC n st (playC R d)).pins.countP id) (2 * d.queue.length + d.pins.countP id) (by omega)
      refine ⟨by omega, ?_⟩
      unfold Bd
      rw [← hW]
      by_cases hz : (nextC n st (playC R d)).pins.countP id = 0
      · exact ⟨1, by omega, Or.inr (Or.inl ⟨hz, Nat.le_refl _⟩)⟩
      · obtain ⟨m2, k1, k2⟩ := pin_ex hOK (by omega)
        exact ⟨m2, by omega, Or.inl ⟨k1, k2⟩⟩
    · have e : playC R d = d := by unfold playC; rw [if_neg hpin]
      rw [e] at q1 q2 hOK ⊢
      have hs := side_cyc hP
      have hm0 : m1 ≠ 0 := fun h0 => by
        subst h0
        unfold pinAt at h2
        rw [Nat.add_zero, Nat.mod_eq_of_lt hs.2] at h2
        exact hpin (by rw [hs.1, Int.toNat_natCast]; exact h2)
      refine ⟨by omega, m1 - 1, ?_, Or.inl ⟨by omega, ?_⟩⟩
      · rw [← hW, q1, q2]; omega
      · unfold pinAt at h2 ⊢
        rw [q1, next_cyc hP st, Nat.mod_add_mod, show cyc n d + 1 + (m1 - 1) = cyc n d + m1 by omega]
        exact h2
  · rw [if_neg hany] at ha ⊢
    have hp0 : (pressC c).pins.countP id = 0 := by
      have : ¬1 ≤ (pressC c).pins.countP id := fun h => hany ((any_count _).2 h)
      omega
    rcases hlaw with ⟨he, hh⟩ | ⟨he, hh⟩
    · have e : pressC c = c := by unfold pressC; rw [he]
      rw [e] at ha hp0 ⊢
      cases hq : c.queue with
      | nil => rw [hq] at ha; cases ha
      | cons x q =>
        simp only
        have hx := hh x (by rw [hq]; rfl)
        have hm1 : 1 ≤ m := by
          rcases hc with ⟨-, h2⟩ | ⟨-, h2⟩ | ⟨-, h2⟩
          · unfold pinAt at h2
            have : 0 < c.pins.countP id := List.countP_pos_iff.2 ⟨true, by
              rw [List.getD_eq_getElem?_getD] at h2
              cases hg : c.pins[sideOf n ((cyc n c + m) % (2 * n))]? with
              | none => rw [hg] at h2; cases h2
              | some b => rw [hg] at h2; have hb : b = true := h2; subst hb; exact List.mem_of_getElem? hg, rfl⟩
            omega
          · exact h2
          · have := h2 x (by rw [hq]; rfl)
            omega
        refine ⟨⟨h.pl, h.p0, h.pn, h.wy, h.qs, h.ps, h.cnt⟩, by omega, 0, ?_, Or.inr (Or.inr ⟨hp0, fun y hy => ?_⟩)⟩
        · show (2 * c.queue.length + c.pins.countP id) * (2 * n + 2) + 0 ≤ X - 1
          rw [← hW]
          omega
        · have hy' : c.queue.head? = some y := hy
          rw [hq] at hy'
          cases hy'
          exact Int.le_refl _
    · have : 1 ≤ (pressC c).pins.countP id := hh
      omega
end
end Go.Proofs.YtppncdbhebgcaaaGreatDoor
namespace Go.Proofs.YtppncdbhebgcaaaGreatDoor
open Go.RowKit

end Go.Proofs.YtppncdbhebgcaaaGreatDoor
namespace Go.Proofs.YtppncdbhebgcaaaGreatDoor
open Go.RowKit

/-- a world that grew, and whose one row grew -/
def GrB (r : Option Nat) (w w' : World) : Prop := World.grownBy w w' r
theorem GrB.ext {r : Option Nat} {w w' : World} (h : Ext w w') : GrB r w w' := ⟨h.os, h.tape, h.output, h.size, fun i hi _ => h.block i hi⟩
theorem GrB.refl (r : Option Nat) (w : World) : GrB r w w := GrB.ext (Ext.refl w)
theorem GrB.trans {r : Option Nat} {a b c : World} (h : GrB r a b) (h' : GrB r b c) : GrB r a c :=
  ⟨h'.os.trans h.os, h'.tape.trans h.tape, h'.output.trans h.output, Nat.le_trans h.size h'.size, fun k hk hr => (h'.block k (Nat.lt_of_lt_of_le hk h.size) hr).trans (h.block k hk hr)⟩
theorem GrB.keep {r : Option Nat} {w w' : World} (h : GrB r w w') {b : Nat} {o : Obj} (hm : w.heap[b]? = some o) (hr : some b ≠ r) : w'.heap[b]? = some o := (h.block b (Array.getElem?_eq_some_iff.1 hm).1 hr).trans hm
def boolVs (l : List Bool) : Array Value := (l.map Value.bool).toArray
structure TrP where
  pr : Option Addr
  cr : Nat
  pp : Option Addr
  cp : Nat
structure CarX where
  qq : Option Addr
  cq : Nat
  sd : Int
  uS : Value
  uP : Value
  st : Int
  en : Int
  nS : Nat
  vS : List Value
def carCells (T : TrayD) (P : TrP) (gp : Nat) (c : Car) (X : CarX) : Array Value :=
  #[.slice P.pr T.recs.length P.cr, .int .i64 T.at_, .int .i64 T.way, .int .i64 T.step, .slice P.pp T.prs.length P.cp, .slice X.qq c.queue.length X.cq, .slice (some ⟨gp, 0, none⟩) c.pins.length c.pins.length, .int .i64 c.now, .int .i64 c.pos, .int .i64 c.way, .int .i64 X.sd, X.uS, X.uP, .int .i64 X.st, .int .i64 X.en]
/-- a carriage, but for its rows that grow -/
structure CarB (w0 w : World) (b gp : Nat) (T : TrayD) (P : TrP) (c : Car) (X : CarX) : Prop where
  e : Ext w0 w
  m : w.heap[b]? = some (.cells (carCells T P gp c X) 151)
  q : PairsAt w X.qq c.queue
  qb : ∀ a, X.qq = some a → a.block < b ∧ a.block ≠ gp ∧ w0.heap.size ≤ a.block
  qc : c.queue.length ≤ X.cq
  p : w.heap[gp]? = some (.cells (boolVs c.pins) 4)
  hb : w0.heap.size ≤ gp
  hg : gp < b
structure CarM (w0 w : World) (b gp : Nat) (T : TrayD) (P : TrP) (c : Car) (X : CarX) (S : Nat) : Prop where
  B : CarB w0 w b gp T P c X
  s : w.ownsRow (b + 1) 190 4 X.uS X.nS X.vS
  pl : w.ownsRow (b + 1) 95 2 X.uP c.plays.length (pairVs c.plays)
  nS : X.nS ≤ S
theorem PairsAt.heap {w w' : World} {p : Option Addr} {l : List (Int × Int)} (h : PairsAt w p l) (hk : ∀ a, p = some a → w'.heap[a.block]? = w.heap[a.block]?) : PairsAt w' p l := by
  intro i hi
  obtain ⟨b, o, rfl, h1, h2⟩ := h i hi
  have e := hk _ rfl
  exact ⟨b, o, rfl, (World.cell?_of_block (a := ⟨b, o + i * 2, none⟩) e).trans h1, (World.cell?_of_block (a := ⟨b, o + i * 2 + 1, none⟩) e).trans h2⟩
theorem heap_off {w : World} {b o k : Nat} {v : Value} (h : k ≠ b) : (w.setCell ⟨b, o, none⟩ v).heap[k]? = w.heap[k]? := by
  cases hm : w.heap[k]? with
  | none =>
    have : w.heap.size ≤ k := by
      rcases Nat.lt_or_ge k w.heap.size with h' | h'
      · rw [Array.getElem?_eq_getElem h'] at hm; cases hm
      · exact h'
    rw [Array.getElem?_eq_none (by simp only [World.setCell, Array.size_modify]; exact this)]
  | some o' => exact heap_set_ne h hm
section
variable {w0 w w' : World} {b gp S : Nat} {T : TrayD} {P : TrP} {c c' : Car} {X X' : CarX}
theorem CarB.size (h : CarB w0 w b gp T P c X) : b < w.heap.size := (Array.getElem?_eq_some_iff.1 h.m).1
/-- what lies above the carriage grows -/
theorem CarB.grow {r : Option Nat} (h : CarB w0 w b gp T P c X) (hg : GrB r w w') (hr : ∀ k, r = some k → b < k) : CarB w0 w' b gp T P c X := by
  have hne : ∀ k, k ≤ b → some k ≠ r := fun k hk e => by have := hr k e.symm; omega
  have hs := h.size
  have h1 := h.hb
  have h2 := h.hg
  refine ⟨Below.grown h.e hg h.e.size (fun k hk => by have := hr k hk; omega), hg.keep h.m (hne b (Nat.le_refl _)), h.q.heap fun a ha => ?_, h.qb, h.qc, hg.keep h.p (hne gp (by omega)), h.hb, h.hg⟩
  have h3 := h.qb a ha
  exact hg.block _ (by omega) (hne _ (by omega))
theorem CarB.ext (h : CarB w0 w b gp T P c X) (hE : Ext w w') : CarB w0 w' b gp T P c X := h.grow (r := none) (GrB.ext hE) fun k hk => by cases hk
theorem CarM.mono {S' : Nat} (h : CarM w0 w b gp T P c X S) (hS : S ≤ S') : CarM w0 w b gp T P c X S' := ⟨h.B, h.s, h.pl, Nat.le_trans h.nS hS⟩
theorem CarM.ext (h : CarM w0 w b gp T P c X S) (hE : Ext w w') : CarM w0 w' b gp T P c X S := ⟨h.B.ext hE, ownsRow_ext h.s hE, ownsRow_ext h.pl hE, h.nS⟩
end
/-- a slice of one element of its own -/
def OneN (B : Nat) (xs : List Value) (t : TypeId) (v : Value) (_ _ : Nat) (w : World) : Prop := ∃ g, v = .slice (some ⟨g, 0, none⟩) 1 1 ∧ B ≤ g ∧ w.heap[g]? = some (.cells xs.toArray t)
theorem OneN.mono {B : Nat} {xs : List Value} {t : TypeId} : ∀ v s u w w', Ext w w' → OneN B xs t v s u w → OneN B xs t v s u w' := fun _ _ _ _ _ hE ⟨g, h1, h2, h3⟩ => ⟨g, h1, h2, heap_ext3 h3 hE⟩
theorem OneN.grow {B : Nat} {xs : List Value} {t : TypeId} {r : Option Nat} (hr : ∀ k, r = some k → k < B) {w w' : World} (hg : GrB r w w') {v : Value} {s u : Nat} (h : OneN B xs t v s u w) : OneN B xs t v s u w' := by
  obtain ⟨g, h1, h2, h3⟩ := h
  exact ⟨g, h1, h2, hg.keep h3 fun e => by have := hr g e.symm; omega⟩
theorem one_news2 {w : World} {g : Nat} {xs : List Value} {t : TypeId} (h : w.heap[g]? = some (.cells xs.toArray t)) : ∀ (j : Nat) (u : Value), xs[j]? = some u → w.cell? ((⟨g, 0, none⟩ : Addr).add j) = some u := by
  intro j u hj
  have : w.cell? ⟨g, j, none⟩ = some u := by rw [cell_of_heap h]; simpa using hj
  by_cases h0 : j = 0
  · subst h0; exact this
  · simpa [Addr.add, h0] using this
/-- a row that grew -/
def RowG (B : Nat) (t : TypeId) (size n : Nat) (xs : List Value) (v : Value) (_ _ : Nat) (w : World) : Prop := ∃ g cap, v = .slice (some ⟨g, 0, none⟩) n cap ∧ w.ownsRow B t size v n xs
theorem RowG.mono {B : Nat} {t : TypeId} {size n : Nat} {xs : List Value} : ∀ v s u w w', Ext w w' → RowG B t size n xs v s u w → RowG B t size n xs v s u w' := fun _ _ _ _ _ hE ⟨g, c, h1, h2⟩ => ⟨g, c, h1, ownsRow_ext h2 hE⟩
end Go.Proofs.YtppncdbhebgcaaaGreatDoor
namespace Go.Proofs.YtppncdbhebgcaaaGreatDoor
open Go.RowKit

theorem own_ne2 {w : World} {B B' size size' n n' : Nat} {v v' : Value} {e e' : TypeId} {xs xs' : List Value} (h : w.ownsRow B e size v n xs) (h' : w.ownsRow B' e' size' v' n' xs') (he : e ≠ e') : ∀ g, v.ownBlock = some g → ¬v'.ownBlock = some g := by
  intro g hg hg'
  rcases h.2 with ⟨hv, -⟩ | ⟨g1, cap, cur, hv, -, hm, -⟩
  · rw [hv] at hg; cases hg
  · rcases h'.2 with ⟨hv', -⟩ | ⟨g2, cap', cur', hv', -, hm', -⟩
    · rw [hv'] at hg'; cases hg'
    · rw [hv] at hg
      rw [hv'] at hg'
      cases hg
      cases hg'
      rw [hm] at hm'
      injection hm' with h1
      injection h1 with _ h2
      exact he h2

end Go.Proofs.YtppncdbhebgcaaaGreatDoor
namespace Go.Proofs.YtppncdbhebgcaaaGreatDoor
open Go.RowKit

end Go.Proofs.YtppncdbhebgcaaaGreatDoor
namespace Go.Proofs.YtppncdbhebgcaaaGreatDoor
open Go.RowKit


theorem PairsAt.tail {w : World} {b o : Nat} {r : Int × Int} {l : List (Int × Int)} (h : PairsAt w (some ⟨b, o, none⟩) (r :: l)) : PairsAt w (some ⟨b, o + 2, none⟩) l := by
  intro i hi
  obtain ⟨b', o', he, h1, h2⟩ := h (i + 1) (by simp; omega)
  cases he
  rw [List.getElem_cons_succ] at h1 h2
  exact ⟨b, o + 2, rfl, by rw [show o + 2 + i * 2 = o + (i + 1) * 2 by omega]; exact h1, by rw [show o + 2 + i * 2 + 1 = o + (i + 1) * 2 + 1 by omega]; exact h2⟩
end Go.Proofs.YtppncdbhebgcaaaGreatDoor
namespace Go.Proofs.YtppncdbhebgcaaaGreatDoor
open Go.RowKit

/-- what Index of a true one answers -/
def RetIx (l : List Bool) (w : World) (e : Ending) (w' : World) : Prop := ∃ k : Int, e = .returned (.int .i64 k) ∧ (l.any id = true → 0 ≤ k) ∧ (l.any id = false → k = -1) ∧ Ext w w'
theorem RetIx.fin {l : List Bool} {w w' : World} {k : Int} (h1 : l.any id = true → 0 ≤ k) (h2 : l.any id = false → k = -1) (h3 : Ext w w') : RetIx l w (.returned (.int .i64 k)) w' := ⟨k, rfl, h1, h2, h3⟩

theorem last_bd {T : TrayD} (hT : ValidY T) {s : Int} (h0 : 0 ≤ s) (h1 : s < 2 * (T.recs.length : Int)) : 1 ≤ lastC T.recs s ∧ lastC T.recs s ≤ 999 := by
  have hd : Int.tdiv s 2 = s / 2 := Int.tdiv_eq_ediv_of_nonneg h0
  obtain ⟨k, hk⟩ : ∃ k : Nat, s / 2 = k := ⟨(s / 2).toNat, by omega⟩
  have hlt : k < T.recs.length := by omega
  have hg : T.recs.getD (Int.tdiv s 2).toNat (0, 0) = T.recs[k] := by rw [hd, hk, Int.toNat_natCast, List.getD_eq_getElem?_getD, List.getElem?_eq_getElem hlt]; rfl
  have := hT.rc _ (List.getElem_mem hlt)
  unfold lastC
  rw [hg]
  split <;> omega
end Go.Proofs.YtppncdbhebgcaaaGreatDoor
namespace Go.Proofs.YtppncdbhebgcaaaGreatDoor
open Go.RowKit


end Go.Proofs.YtppncdbhebgcaaaGreatDoor
namespace Go.Proofs.YtppncdbhebgcaaaGreatDoor
open Go.RowKit

def swpP (l : List (Int × Int)) (i j : Nat) : List (Int × Int) := (l.set i (l.getD j (0, 0))).set j (l.getD i (0, 0))
theorem swpP_len (l : List (Int × Int)) (i j : Nat) : (swpP l i j).length = l.length := by simp [swpP]
theorem getD_setP (l : List (Int × Int)) (i : Nat) (v : Int × Int) (k : Nat) (h : i < l.length) : (l.set i v).getD k (0, 0) = if i = k then v else l.getD k (0, 0) := by
  rw [List.getD_eq_getElem?_getD, List.getElem?_set]
  by_cases e : i = k
  · rw [if_pos e, if_pos e, if_pos h]; rfl
  · rw [if_neg e, if_neg e, List.getD_eq_getElem?_getD]
theorem swpP_get {l : List (Int × Int)} {i j : Nat} (hi : i < l.length) (hj : j < l.length) (k : Nat) : (swpP l i j).getD k (0, 0) = if j = k then l.getD i (0, 0) else if i = k then l.getD j (0, 0) else l.getD k (0, 0) := by
  unfold swpP
  rw [getD_setP _ _ _ _ (by rw [List.length_set]; exact hj), getD_setP _ _ _ _ hi]
/-- the first i are sorted -/
def SrtP (R : (Int × Int) → (Int × Int) → Prop) (l : List (Int × Int)) (i : Nat) : Prop := ∀ a b, a < b → b < i → R (l.getD a (0, 0)) (l.getD b (0, 0))
/-- the first ones are sorted but for the one at j, which is still on its way -/
structure InsP (R : (Int × Int) → (Int × Int) → Prop) (l : List (Int × Int)) (i j : Nat) : Prop where
  ji : j ≤ i
  il : i < l.length
  pr : ∀ a b, a < b → b ≤ i → b ≠ j → R (l.getD a (0, 0)) (l.getD b (0, 0))
section
variable {R : (Int × Int) → (Int × Int) → Prop} {l : List (Int × Int)} {i j : Nat}
theorem InsP.start (h : SrtP R l i) (hi : i < l.length) : InsP R l i i := ⟨Nat.le_refl _, hi, fun a b hab hb hne => h a b hab (by omega)⟩
theorem InsP.stop (hT : ∀ x y z, R x y → R y z → R x z) (h : InsP R l i j) (hs : j = 0 ∨ R (l.getD (j - 1) (0, 0)) (l.getD j (0, 0))) : SrtP R l (i + 1) := by
  intro a b hab hb
  by_cases e : b = j
  · subst e
    rcases hs with h0 | h1
    · omega
    · by_cases c : a = b - 1
      · rw [c]; exact h1
      · exact hT _ _ _ (h.pr a (b - 1) (by omega) (by omega) (by omega)) h1
  · exact h.pr a b hab (by omega) e
theorem InsP.step (h : InsP R l i (j + 1)) (hr : R (l.getD (j + 1) (0, 0)) (l.getD j (0, 0))) : InsP R (swpP l (j + 1) j) i j := by
  have hi := h.il
  have hji := h.ji
  refine ⟨by omega, by rw [swpP_len]; exact hi, fun a b hab hb hne => ?_⟩
  rw [swpP_get (by omega) (by omega), swpP_get (by omega) (by omega)]
  by_cases b1 : j + 1 = b
  · subst b1
    rw [if_neg (by omega : ¬j = j + 1), if_pos rfl]
    by_cases a1 : j = a
    · rw [if_pos a1]; exact hr
    · rw [if_neg a1, if_neg (by omega)]
      exact h.pr a j (by omega) (by omega) (by omega)
  · have hb' : ¬j = b := fun e => hne e.symm
    rw [if_neg hb', if_neg b1]
    by_cases a1 : j = a
    · rw [if_pos a1]; exact h.pr (j + 1) b (by omega) hb (fun e => b1 e.symm)
    · rw [if_neg a1]
      by_cases a2 : j + 1 = a
      · rw [if_pos a2]; exact h.pr j b (by omega) hb (fun e => b1 e.symm)
      · rw [if_neg a2]; exact h.pr a b hab hb (fun e => b1 e.symm)
theorem SrtP.pairwise (h : SrtP R l l.length) : l.Pairwise R := by
  rw [List.pairwise_iff_getElem]
  intro a b ha hb hab
  have := h a b hab hb
  rwa [List.getD_eq_getElem?_getD, List.getD_eq_getElem?_getD, List.getElem?_eq_getElem ha, List.getElem?_eq_getElem hb] at this
end
end Go.Proofs.YtppncdbhebgcaaaGreatDoor
namespace Go.Proofs.YtppncdbhebgcaaaGreatDoor
open Go.RowKit

end Go.Proofs.YtppncdbhebgcaaaGreatDoor
