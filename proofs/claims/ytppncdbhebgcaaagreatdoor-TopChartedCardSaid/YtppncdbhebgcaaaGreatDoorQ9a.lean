
/- The reference's sums, shows, weeks and rounds, reckoned over all truths: the plain law. -/
import Derived.Test.YtppncdbhebgcaaaGreatDoorQ8a
namespace Go.Proofs.YtppncdbhebgcaaaGreatDoor
open Go.RowKit

theorem asc_ext : ∀ {l m : List Int}, l.Pairwise (· < ·) → m.Pairwise (· < ·) → (∀ x, x ∈ l ↔ x ∈ m) → l = m
  | [], [], _, _, _ => rfl
  | [], y :: m, _, _, h => absurd ((h y).2 List.mem_cons_self) (by simp)
  | x :: l, [], _, _, h => absurd ((h x).1 List.mem_cons_self) (by simp)
  | x :: l, y :: m, hl, hm, h => by
    obtain ⟨a1, a2⟩ := List.pairwise_cons.1 hl
    obtain ⟨b1, b2⟩ := List.pairwise_cons.1 hm
    have e : x = y := by
      rcases List.mem_cons.1 ((h x).1 List.mem_cons_self) with e | e
      · exact e
      · rcases List.mem_cons.1 ((h y).2 List.mem_cons_self) with e2 | e2
        · exact e2.symm
        · have := a1 y e2
          have := b1 x e
          omega
    subst e
    rw [asc_ext a2 b2 fun z => ?_]
    constructor
    · intro hz
      rcases List.mem_cons.1 ((h z).1 (List.mem_cons_of_mem _ hz)) with e | e
      · have := a1 z hz; omega
      · exact e
    · intro hz
      rcases List.mem_cons.1 ((h z).2 (List.mem_cons_of_mem _ hz)) with e | e
      · have := b1 z hz; omega
      · exact e
theorem cast_rises {l : List Nat} (h : l.Pairwise (· < ·)) : (l.map fun n : Nat => (n : Int)).Pairwise (· < ·) := by
  rw [List.pairwise_map]
  exact h.imp fun h => by omega
theorem pick_rises (f : Nat → Bool) (k : Nat) : (pickTo f k).Pairwise (· < ·) := by
  unfold pickTo
  exact cast_rises (List.Pairwise.filter _ List.pairwise_lt_range)
/-- how often a number is counted among the first truths -/
def cntT (g : Int × List Int → Int) (T : List (Int × List Int)) (k : Nat) (s : Int) : Nat := (T.take k).countP fun t => decide (g t = s)
theorem cntT_succ {g : Int × List Int → Int} {T : List (Int × List Int)} {k : Nat} (h : k < T.length) (s : Int) : cntT g T (k + 1) s = cntT g T k s + if g T[k] = s then 1 else 0 := by
  unfold cntT
  rw [List.take_succ_eq_append_getElem h, List.countP_append]
  simp [List.countP_cons]
theorem cntT_le (g : Int × List Int → Int) (T : List (Int × List Int)) (k : Nat) (s : Int) : cntT g T k s ≤ T.length := Nat.le_trans List.countP_le_length (by rw [List.length_take]; exact Nat.min_le_right _ _)
theorem cntT_pos {g : Int × List Int → Int} {T : List (Int × List Int)} {s : Int} : 0 < cntT g T T.length s ↔ ∃ t ∈ T, g t = s := by
  unfold cntT
  rw [List.take_length, List.countP_pos_iff]
  simp
/-- the numbers up to a limit that are counted -/
def srtL (g : Int × List Int → Int) (T : List (Int × List Int)) (m : Nat) : List Int := pickTo (fun n => decide (0 < cntT g T T.length n)) (m + 1)
theorem mem_srtL {g : Int × List Int → Int} {T : List (Int × List Int)} {m : Nat} (h : ∀ t ∈ T, 0 ≤ g t ∧ g t ≤ m) {x : Int} : x ∈ srtL g T m ↔ ∃ t ∈ T, g t = x := by
  unfold srtL
  constructor
  · intro hx
    unfold pickTo at hx
    rw [List.mem_map] at hx
    obtain ⟨n, hn, rfl⟩ := hx
    have := (List.mem_filter.1 hn).2
    exact cntT_pos.1 (by simpa using this)
  · rintro ⟨t, ht, rfl⟩
    have := h t ht
    unfold pickTo
    rw [List.mem_map]
    refine ⟨(g t).toNat, List.mem_filter.2 ⟨List.mem_range.2 (by omega), ?_⟩, by omega⟩
    rw [decide_eq_true_eq, cntT_pos]
    exact ⟨t, ht, by omega⟩
def sumG (f t : Int) (x : Int × List Int) : Int := dOf x.1 x.2 t.toNat - dOf x.1 x.2 f.toNat
section
variable {M : Mt}
theorem truthsL_bd (hM : ValidM M) {n : Int} {x : Int × List Int} (h : x ∈ truthsL M n) {a b : Nat} (hab : a ≤ b) (hb : b ≤ M.weeks.length) : 0 ≤ dOf x.1 x.2 b - dOf x.1 x.2 a ∧ dOf x.1 x.2 b - dOf x.1 x.2 a ≤ 1500 :=
  dOf_small (truthsL_ok hM h) hab (by rw [(truth_zero h).2]; exact hb)
theorem sums_ref (hM : ValidM M) {f t : Int} (hb : areB f t M.weeks.length = true) (hz : askV M true = 0) : sumsA M f t = srtL (sumG f t) (truthsL M M.wrong) 1500 := by
  obtain ⟨e, h1, h2⟩ := sumsA_list hM hb hz
  refine asc_ext (by rw [e]; exact cast_rises (bitsN_rises _)) (pick_rises _ _) fun x => ?_
  rw [sumsA_mem hM hb hz, mem_srtL (g := sumG f t) (fun y hy => truthsL_bd hM hy h1 h2)]
  exact tru_ex hM fun D E h h3 => by rw [← h3, h _ h2, h _ (Nat.le_trans h1 h2)]; omega
end
end Go.Proofs.YtppncdbhebgcaaaGreatDoor
