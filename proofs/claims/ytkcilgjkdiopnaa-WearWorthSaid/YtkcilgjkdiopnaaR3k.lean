/- The walks of the reference's known, Needles and Records. -/
import Derived.Test.YtkcilgjkdiopnaaR3j
namespace Go.Proofs.Ytkcilgjkdiopnaa
open Go.RowKit

/-- all that the reference's choices are -/
def refL (X : Wr) : List RC := refCh X X.weeks.toNat (2 ^ X.weeks.toNat)
def KnownQ (X : Wr) (w : World) (e : Ending) (w' : World) : Prop :=
  Ext w w' ∧ ((¬ValidW X ∧ e = .returned (.tuple #[.slice none 0 0, .int .i64 30])) ∨ (ValidW X ∧ refL X = [] ∧ e = .returned (.tuple #[.slice none 0 0, .int .i64 3])) ∨
    (ValidW X ∧ refL X ≠ [] ∧ ∃ p c, e = .returned (.tuple #[.slice p (refL X).length c, .int .i64 0]) ∧ RcsAt w' p (refL X)))
theorem refL_bd {X : Wr} (hX : ValidW X) : (refL X).length ≤ 64 ∧ ∀ i (h : i < (refL X).length), (0 ≤ (refL X)[i].needles ∧ (refL X)[i].needles ≤ 6) ∧ (-4000 ≤ (refL X)[i].cost ∧ (refL X)[i].cost ≤ 24000) ∧ (-4 ≤ (refL X)[i].recs ∧ (refL X)[i].recs ≤ 24) := by
  have h6 : X.weeks.toNat ≤ 6 := by have := hX.weeks; omega
  have hp : 2 ^ X.weeks.toNat ≤ 64 := Nat.pow_le_pow_right (n := 2) (by decide) h6
  have h4 := hX.recs
  refine ⟨Nat.le_trans (refCh_len _ _ _) hp, fun i hi => ?_⟩
  obtain ⟨N, -, hN⟩ := List.mem_filterMap.1 (List.getElem_mem hi)
  split at hN
  · have e := Option.some.inj hN
    rw [← show _ = (refL X)[i] from e]
    have h1 := popc_le N
    have h2 := rcost_bd hX N X.weeks.toNat X.recs.length
    have h3 := rrep_bd X N X.weeks.toNat X.recs.length
    simp only
    omega
  · cases hN

set_option maxRecDepth 20000 in
set_option maxHeartbeats 16000000 in
theorem knownR03 (v : Value) (X : Wr) (w : World) (hv : WrV w v X) (hM : ModestW X) :
    Calls Try.prog 68 #[v] w (KnownQ X w) := by
  have HM := Lib.hid hM
  have HV := Lib.hid hv
  obtain ⟨p, cp, q, d, rfl, hR, hG⟩ := hv
  clear hM hR hG
  go_enter Try.func68, Try.ntmps68
  go_upto_region 1 with (fail)
  generalize hW : World.alloc _ _ = W
  have hb0 : W.heap[w.heap.size]? = some (.cells #[.int .i64 X.weeks, .int .i64 X.price, .int .i64 X.age, .int .i64 X.step, .slice p X.rough.length cp, .slice q X.recs.length d] 25) := by rw [← hW]; exact heap_new _ _
  have hE : Ext w W := by rw [← hW]; exact Ext.alloc (Ext.refl w) _
  have q0 := ExtW.cell (v := .int .i64 X.weeks) (cell_of_heap hb0 0)
  have q1 := ExtW.cell (v := .int .i64 X.price) (cell_of_heap hb0 1)
  have q2 := ExtW.cell (v := .int .i64 X.age) (cell_of_heap hb0 2)
  have q3 := ExtW.cell (v := .int .i64 X.step) (cell_of_heap hb0 3)
  have q4 := ExtW.cell (v := .slice p X.rough.length cp) (cell_of_heap hb0 4)
  have q5 := ExtW.cell (v := .slice q X.recs.length d) (cell_of_heap hb0 5)
  have hvx := fun x : ExtW W => WrV.mono _ _ _ _ (hE.trans x.h) HV.out
  have HC := fun x : ExtW W => ExtW.call (rCheck03 _ X x.w (hvx x) HM.out)
  have HVX := Lib.hid hvx
  have HE := Lib.hid hE
  obtain ⟨x0, hx0⟩ := ExtW.of (Ext.refl W)
  clear hW hb0 hvx hE
  conv => arg 5; rw [hx0]
  clear hx0
  by_cases hX : ValidW X
  case neg =>
    rw [chkW_f hX] at HC
    have HC := Lib.hid HC
    go_wp2_with (go_at_call 20; refine (HC.out _).mono ?_; rintro e w' ⟨rfl, x1, rfl⟩)
    refine bodyPost_ret (v := .tuple #[.slice none 0 0, .int .i64 30]) (by simp [results, Try.results68, go_sem]) rfl ⟨HE.out.trans x1.h, Or.inl ⟨hX, rfl⟩⟩
  rw [chkW_t hX] at HC
  have HC := Lib.hid HC
  have hlen := (refL_bd hX).1
  have HS := Lib.hid (fun x : ExtW W => choicesR03 _ X x.w (HVX.out x) hX)
  have HX := Lib.hid hX
  clear hX
  go_upto_region 5 with (first
    | (go_at_call 20; refine (HC.out _).mono ?_; rintro e w' ⟨rfl, x1, rfl⟩)
    | (go_at_call 97; refine (HS.out _).mono ?_; rintro e W1 ⟨p1, c1, rfl, hE1, hr1⟩))
  have hEx := HE.out.trans (x1.h.trans hE1)
  have hr2 : RcsAt W1 p1 (refL X) := hr1
  have HEX := Lib.hid hEx
  have HR2 := Lib.hid hr2
  clear hEx hr2 hr1 hE1
  conv => arg 4; rw [show (refCh X X.weeks.toNat (2 ^ X.weeks.toNat)) = refL X from rfl]
  obtain ⟨k, hk⟩ : ∃ k, k = (refL X).length := ⟨_, rfl⟩
  have HK := Lib.hid hk
  rw [← hk] at hlen ⊢
  by_cases h0 : k = 0
  · subst h0
    clear hk
    go_wp2
    refine bodyPost_ret (v := .tuple #[.slice none 0 0, .int .i64 3]) (by simp [results, Try.results68, go_sem]) rfl ⟨HEX.out, Or.inr (Or.inl ⟨HX.out, List.length_eq_zero_iff.1 HK.out.symm, rfl⟩)⟩
  · have hk0 : ¬(k : Int) = 0 := by omega
    clear hk
    go_wp2
    refine bodyPost_ret (v := .tuple #[.slice p1 k c1, .int .i64 0]) (by simp [results, Try.results68, go_sem]) rfl ⟨HEX.out, Or.inr (Or.inr ⟨HX.out, fun e => h0 (by rw [HK.out, e]; rfl), p1, c1, by rw [← HK.out], HR2.out⟩)⟩
end Go.Proofs.Ytkcilgjkdiopnaa
