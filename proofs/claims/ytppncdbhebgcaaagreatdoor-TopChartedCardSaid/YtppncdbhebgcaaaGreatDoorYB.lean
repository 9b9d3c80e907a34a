
/- A carriage at its start, and how it goes on; its queue sorted. Trays: a carriage goes. Plays of a valid tray. The reference's Copy of a tray. How often each record of a tray is played. The walk of often. -/
import Derived.Test.YtppncdbhebgcaaaGreatDoorYA
import Derived.Test.YtppncdbhebgcaaaGreatDoorCF
import Derived.Deep.RegionHeld3
import Derived.Laws.MakeOwn
import Derived.Test.YtppncdbhebgcaaaGreatDoorCE
import Derived.Test.YtppncdbhebgcaaaGreatDoorQ8a
import Derived.Test.YtppncdbhebgcaaaGreatDoorCC
import Derived.Test.YtppncdbhebgcaaaGreatDoorCD
import Derived.Deep.RegionWith
import Derived.Test.YtppncdbhebgcaaaGreatDoorE4c
namespace Go.Proofs.YtppncdbhebgcaaaGreatDoor
open Go.RowKit

theorem act_now {T : TrayD} (h : ValidY T) {N : Nat} {c : Car} (hO : CarOK T.recs.length N c) (h0 : 0 ≤ c.now) : 0 ≤ (actC T.recs T.step c).1.now ∧ ((actC T.recs T.step c).1.now ≤ c.now + 1059 ∨ (actC T.recs T.step c).1.now ≤ 9999) := by
  have hP := hO.press
  have h1 := h.s0
  have h2 := h.s1
  have e0 : (pressC c).now = c.now := rfl
  have hplay : (pressC c).now ≤ (playC T.recs (pressC c)).now ∧ (playC T.recs (pressC c)).now ≤ (pressC c).now + 999 := by
    unfold playC
    split
    · have h3 := side_cyc hP
      have h4 : sideOf T.recs.length (cyc T.recs.length (pressC c)) < 2 * T.recs.length := by unfold sideOf; split <;> omega
      have hb := last_bd h (s := sideC (pressC c)) (by omega) (by omega)
      show (pressC c).now ≤ (pressC c).now + lastC T.recs (sideC (pressC c)) ∧ (pressC c).now + lastC T.recs (sideC (pressC c)) ≤ _
      omega
    · omega
  have hnext : (playC T.recs (pressC c)).now ≤ (nextC T.recs.length T.step (playC T.recs (pressC c))).now ∧ (nextC T.recs.length T.step (playC T.recs (pressC c))).now ≤ (playC T.recs (pressC c)).now + 60 := by
    unfold nextC
    split
    · show (playC T.recs (pressC c)).now ≤ (playC T.recs (pressC c)).now + T.step ∧ (playC T.recs (pressC c)).now + T.step ≤ _
      omega
    · show (playC T.recs (pressC c)).now ≤ (playC T.recs (pressC c)).now ∧ (playC T.recs (pressC c)).now ≤ _
      omega
  unfold actC
  split
  · simp only
    omega
  · split
    · simp only
      omega
    · next x q hq =>
      have := hP.qs x (by rw [hq]; exact List.mem_cons_self)
      simp only
      omega
/-- what holds of a carriage on its way, with at most so many acts to come -/
def RunY (w0 : World) (b gp : Nat) (T : TrayD) (P : TrP) (c0 : Car) (Y : Nat) (wr : World) : Prop :=
  ∃ (k : Nat) (cc : Car) (X : CarX), CarM w0 wr b gp T P cc X (1 + 3 * k) ∧ CarOK T.recs.length 12 cc ∧ Bd T.recs.length cc Y ∧ Y + k ≤ 400 ∧ 0 ≤ cc.now ∧ cc.now ≤ 10000 + 1100 * (k : Int) ∧ runC T.recs T.step (1000 - k) cc = runC T.recs T.step 1000 c0
/-- one act on -/
theorem RunY.step {w0 w' : World} {b gp : Nat} {T : TrayD} {P : TrP} {c0 cc : Car} {X' : CarX} {Y k : Nat} (hT : ValidY T) (hO : CarOK T.recs.length 12 cc) (hB : Bd T.recs.length cc Y) (hY : Y + k ≤ 400) (h0 : 0 ≤ cc.now) (h1 : cc.now ≤ 10000 + 1100 * (k : Int)) (hR : runC T.recs T.step (1000 - k) cc = runC T.recs T.step 1000 c0)
    (hM : CarM w0 w' b gp T P (actC T.recs T.step cc).1 X' (1 + 3 * k + 3)) (ha : (actC T.recs T.step cc).2 = true) : 1 ≤ Y ∧ RunY w0 b gp T P c0 (Y - 1) w' := by
  obtain ⟨a1, a2, a3⟩ := act_bd hO rfl hB ha
  have a4 := act_now hT hO h0
  refine ⟨a2, k + 1, _, X', hM.mono (by omega), a1, a3, by omega, a4.1, by omega, ?_⟩
  rw [show 1000 - k = (1000 - (k + 1)) + 1 by omega, runC, if_pos ha] at hR
  exact hR
theorem RunY.stop {T : TrayD} {c0 cc : Car} {Y k : Nat} (hY : Y + k ≤ 400) (hR : runC T.recs T.step (1000 - k) cc = runC T.recs T.step 1000 c0) (ha : (actC T.recs T.step cc).2 = false) : (actC T.recs T.step cc).1 = runC T.recs T.step 1000 c0 := by
  rw [show 1000 - k = (1000 - (k + 1)) + 1 by omega, runC, if_neg (by rw [ha]; decide)] at hR
  exact hR
/-- presses in a row of their own, or none -/
def ClQ (B : Nat) (l : List (Int × Int)) (qq : Option Addr) (cq : Nat) (w : World) : Prop :=
  (qq = none ∧ l = [] ∧ cq = 0) ∨ ∃ g, qq = some ⟨g, 0, none⟩ ∧ w.ownsRow B 126 2 (.slice (some ⟨g, 0, none⟩) l.length cq) l.length (pairVs l)
theorem ClQ.pairs {B cq : Nat} {l : List (Int × Int)} {qq : Option Addr} {w : World} (h : ClQ B l qq cq w) : PairsAt w qq l ∧ l.length ≤ cq ∧ ∀ a, qq = some a → B ≤ a.block ∧ a.block < w.heap.size ∧ ∃ cs f, w.heap[a.block]? = some (.cells cs 126 f) := by
  rcases h with ⟨rfl, rfl, rfl⟩ | ⟨g, rfl, ho⟩
  · exact ⟨PairsAt.nil _ _, Nat.zero_le _, fun a h => (by cases h)⟩
  · refine ⟨row_pairs ho, ?_, fun a ha => ?_⟩
    · rcases ho.2 with ⟨hv, -⟩ | ⟨g', cap, cur, hv, -, -, hc, -⟩
      · cases hv
      · cases hv; exact hc
    · cases ha
      rcases ho.2 with ⟨hv, -⟩ | ⟨g', cap, cur, hv, hB, hg, -⟩
      · cases hv
      · cases hv
        exact ⟨hB, (Array.getElem?_eq_some_iff.1 hg).1, _, _, hg⟩
end Go.Proofs.YtppncdbhebgcaaaGreatDoor
namespace Go.Proofs.YtppncdbhebgcaaaGreatDoor
open Go.RowKit

/-- a copy of presses -/
def ClF (B : Nat) (l : List (Int × Int)) (v : Value) (_ _ : Nat) (w : World) : Prop := ∃ qq cq, v = .slice qq l.length cq ∧ ClQ B l qq cq w
theorem ClQ.ext {B cq : Nat} {l : List (Int × Int)} {qq : Option Addr} {w w' : World} (h : ClQ B l qq cq w) (hE : Ext w w') : ClQ B l qq cq w' := by
  rcases h with h | ⟨g, h1, h2⟩
  · exact Or.inl h
  · exact Or.inr ⟨g, h1, ownsRow_ext h2 hE⟩
theorem ClF.mono {B : Nat} {l : List (Int × Int)} : ∀ v s t w w', Ext w w' → ClF B l v s t w → ClF B l v s t w' := fun _ _ _ _ _ hE ⟨qq, cq, h1, h2⟩ => ⟨qq, cq, h1, h2.ext hE⟩
theorem ClF.of {B B' : Nat} {l : List (Int × Int)} {v : Value} {w : World} {s t : Nat} (h : (v = .slice none 0 0 ∧ l = []) ∨ RwB B' 126 l v 0 0 w) (hB : B ≤ B') : ClF B l v s t w := by
  rcases h with ⟨rfl, rfl⟩ | ⟨g, cn, rfl, ho⟩
  · exact ⟨none, 0, rfl, Or.inl ⟨rfl, rfl, rfl⟩⟩
  · exact ⟨_, cn, rfl, Or.inr ⟨g, rfl, ownsRow_base ho hB⟩⟩
/-- pins that are not set -/
def BlF (B n : Nat) (v : Value) (_ _ : Nat) (w : World) : Prop := ∃ g, v = .slice (some ⟨g, 0, none⟩) n n ∧ B ≤ g ∧ w.heap[g]? = some (.cells (boolVs (List.replicate n false)) 4)
theorem BlF.mono {B n : Nat} : ∀ v s t w w', Ext w w' → BlF B n v s t w → BlF B n v s t w' := fun _ _ _ _ _ hE ⟨g, h1, h2, h3⟩ => ⟨g, h1, h2, heap_ext3 h3 hE⟩
end Go.Proofs.YtppncdbhebgcaaaGreatDoor
namespace Go.Proofs.YtppncdbhebgcaaaGreatDoor
open Go.RowKit

end Go.Proofs.YtppncdbhebgcaaaGreatDoor
namespace Go.Proofs.YtppncdbhebgcaaaGreatDoor
open Go.RowKit

/-- a tray in memory of its own -/
def TyOwn (B : Nat) (w : World) (v : Value) (T : TrayD) : Prop :=
  ∃ g1 c1 g2 c2, v = .agg #[.slice (some ⟨g1, 0, none⟩) T.recs.length c1, .int .i64 T.at_, .int .i64 T.way, .int .i64 T.step, .slice (some ⟨g2, 0, none⟩) T.prs.length c2] ∧
    w.ownsRow B 88 2 (.slice (some ⟨g1, 0, none⟩) T.recs.length c1) T.recs.length (pairVs T.recs) ∧ w.ownsRow B 126 2 (.slice (some ⟨g2, 0, none⟩) T.prs.length c2) T.prs.length (pairVs T.prs)
theorem TyOwn.ty {B : Nat} {w : World} {v : Value} {T : TrayD} (h : TyOwn B w v T) : TyV w v T := by
  obtain ⟨g1, c1, g2, c2, e, h1, h2⟩ := h
  exact ⟨_, c1, _, c2, e, row_pairs h1, row_pairs h2⟩
end Go.Proofs.YtppncdbhebgcaaaGreatDoor
namespace Go.Proofs.YtppncdbhebgcaaaGreatDoor
open Go.RowKit

end Go.Proofs.YtppncdbhebgcaaaGreatDoor
namespace Go.Proofs.YtppncdbhebgcaaaGreatDoor
open Go.RowKit

end Go.Proofs.YtppncdbhebgcaaaGreatDoor
