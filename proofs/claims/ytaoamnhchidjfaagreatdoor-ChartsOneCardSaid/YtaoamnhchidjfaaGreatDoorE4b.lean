
/- Charts: the walks of the reference's orderIn, orders, Orders and IsOrder. -/
import Derived.Test.YtaoamnhchidjfaaGreatDoorCC
import Derived.Test.YtaoamnhchidjfaaGreatDoorE2d
namespace Go.Proofs.YtaoamnhchidjfaaGreatDoor
open Go.RowKit

def ordK (n : Nat) (x : Nat → Int) (k : Nat) : List Int := (List.range k).map fun j : Nat => atN n x ((j : Int) + 1)
theorem ordK_succ (n : Nat) (x : Nat → Int) (k : Nat) : ordK n x (k + 1) = ordK n x k ++ [atN n x ((k : Int) + 1)] := by
  unfold ordK
  rw [List.range_succ, List.map_append]
  rfl
theorem ordK_len (n : Nat) (x : Nat → Int) (k : Nat) : (ordK n x k).length = k := by unfold ordK; simp
theorem ordK_all (n : Nat) (x : Nat → Int) : ordK n x n = ordI n x := rfl

set_option maxRecDepth 20000 in
set_option maxHeartbeats 3200000 in
theorem rorderIn06 (t : List Int) (hl : t.length ≤ 1000) (p : Option Addr) (c : Nat) (w : World) (hv : IntsAt w p t) :
    Calls Tryz.prog 103 #[.slice p t.length c] w (RetO1 (ordI t.length (vT t)) w) := by
  have HA := Lib.hid (fun k (hk : k < t.length) y (h : Ext w y) => (by
    have h := At06 t (k + 1) (by omega) (by omega) hl p c y (hv.ext h)
    rw [show ((k + 1 : Nat) : Int) = (k : Int) + 1 from by simp] at h
    exact h : Calls Tryz.prog 32 #[.slice p t.length c, .int .i64 ((k : Int) + 1)] y (RetE (.int .i64 (atN t.length (vT t) ((k : Int) + 1))) y)))
  have HSU := Lib.hid (fun k => ordK_succ t.length (vT t) k)
  have HSL := Lib.hid (fun k => ordK_len t.length (vT t) k)
  have HAL := Lib.hid (ordK_all t.length (vT t))
  obtain ⟨i0, hi, hz0, hz1, hz2⟩ := info_parts info_a
  clear hv
  go_enter Tryz.func103, Tryz.ntmps103
  go_wp2
  go_loopw [3, 4] (fun u a wr => ∃ k : Nat, k ≤ t.length ∧ a = .int .i64 ((k : Int) + 1) ∧ Ext w wr ∧ wr.ownsRow w.heap.size 3 1 u k (intVs (ordK t.length (vT t) k))) (fun _ a _ => t.length + 1 - (intOf a).toNat)
  case atStart => exact ⟨0, Nat.zero_le _, rfl, Ext.refl _, World.ownsRow_nil _ _ _ _⟩
  case round =>
    obtain ⟨k, hk, rfl, hE, hO⟩ := hrel
    have HE := Lib.hid hE
    have HO := Lib.hid hO
    clear hE hO
    by_cases hlt : k < t.length
    · have hlt' : (k : Int) + 1 ≤ (t.length : Int) := by omega
      have hc := HA.out k hlt wr HE.out
      have hsu := HSU.out k
      have hsl := HSL.out k
      obtain ⟨a, ha⟩ : ∃ a, a = atN t.length (vT t) ((k : Int) + 1) := ⟨_, rfl⟩
      obtain ⟨L, hL⟩ : ∃ L, L = ordK t.length (vT t) k := ⟨_, rfl⟩
      rw [← ha] at hc hsu
      rw [← hL] at HO hsu hsl
      have HC := Lib.hid hc
      have HS := Lib.hid hsu
      have HLK := Lib.hid hsl
      have hw : IntKind.i64.wrap ((k : Int) + 1 + 1) = (k : Int) + 1 + 1 := IntWalk.i64_in _ (by omega)
      clear hc hsu hsl ha hL
      go_wp2_with (first
        | (go_at_call 32; refine HC.out.mono ?_; rintro e w2 ⟨rfl, hE2⟩)
        | (at_builtin; refine wpList_append_lies _ rfl (.tmp 11) (.tmp 15) 23 rfl w.heap.size 3 i0 (.int .i64 0) 1 8 Tryz.underlying23 hi hz0 hz1 hz2 rfl (by decide) _ k _ rfl (ownsRow_ext HO.out (hE2.alloc _)) ⟨w2.heap.size, 0, none⟩ 1 1 [.int .i64 a] rfl rfl (hnewsE (Ext.refl _) rfl) (one_int _) (by decide) ?c3 ?c4 ?c5 (w2.heap.size + 1) (size_alloc _ _) ?_))
      case c3 => unfold maxLen; omega
      case c4 => omega
      case c5 => have := HE.out.size; have := hE2.size; first | omega | (rw [size_alloc]; omega)
      intro g4 cap4 w4 hown4 hgr4 hat4 hlt4
      have hE4 : Ext w w4 := Below.grown (HE.out.trans (hE2.alloc _)) hgr4 (HE.out.trans (hE2.alloc _)).size (fun i hi => (HO.out.lt i hi).1)
      have HO4 := Lib.hid hown4
      have HE4 := Lib.hid hE4
      clear hown4 hgr4 hat4 hlt4 hE4 hE2
      go_wp2
      go_roundw
      case rel => exact ⟨k + 1, by omega, by simp, HE4.out, by rw [HS.out, intVs_snoc]; exact HO4.out⟩
      case measure => simp [intOf]; omega
    · obtain rfl : k = t.length := by omega
      have hgt : ¬((t.length : Int) + 1 ≤ (t.length : Int)) := by omega
      go_wp2
      go_ret
      exact ⟨_, rfl, by rw [← HAL.out, HSL.out]; exact HO.out, HE.out⟩

theorem fold_cap (n : Nat) : ∀ (l : Tab) (o : Tab), (l.foldl (ordStep n) o).length ≤ o.length + l.length := by
  intro l
  induction l with
  | nil => intro o; simp
  | cons a l ih =>
    intro o
    rw [List.foldl_cons, List.length_cons]
    have h1 := ih (ordStep n o a)
    have h2 : (ordStep n o a).length ≤ o.length + 1 := by
      unfold ordStep
      split <;> simp
    omega
theorem ordsTo_cap (T : Tab) (k : Nat) : (ordsTo T k).length ≤ (prL T []).length := by
  have h := fold_cap T.length ((prL T []).take k) []
  have h2 : ((prL T []).take k).length ≤ (prL T []).length := by rw [List.length_take]; exact Nat.min_le_right _ _
  unfold ordsTo
  simp only [List.length_nil, Nat.zero_add] at h
  omega
theorem step_rows {n : Nat} : ∀ (l : Tab) (o : Tab), (∀ r ∈ o, r.length = n) → ∀ r ∈ l.foldl (ordStep n) o, r.length = n := by
  intro l
  induction l with
  | nil => intro o h; exact h
  | cons a l ih =>
    intro o h
    rw [List.foldl_cons]
    refine ih _ fun r hr => ?_
    unfold ordStep at hr
    split at hr
    · exact h r hr
    · rcases List.mem_append.1 hr with hr | hr
      · exact h r hr
      · rw [List.mem_singleton.1 hr]; exact ordI_len _ _
theorem ordsTo_rows (T : Tab) (k : Nat) : ∀ r ∈ ordsTo T k, r.length = T.length := step_rows _ _ fun r hr => by cases hr
def RetOr (O : Tab) (w : World) (e : Ending) (w' : World) : Prop := ∃ u vs, e = .returned u ∧ Ext w w' ∧ RwV w' w.heap.size u vs O none
def inOr (O : Tab) (o : List Int) (k : Nat) : Bool := (O.take k).any fun r => decide (r = o)
theorem inOr_succ (O : Tab) (o : List Int) {k : Nat} (h : k < O.length) : inOr O o (k + 1) = (inOr O o k || decide (O[k] = o)) := by
  unfold inOr
  rw [List.take_succ_eq_append_getElem h, List.any_append]
  simp
theorem inOr_all (O : Tab) (o : List Int) : inOr O o O.length = true ↔ o ∈ O := by
  unfold inOr
  rw [List.take_length, List.any_eq_true]
  constructor
  · rintro ⟨r, hr, h⟩
    rw [decide_eq_true_eq] at h
    exact h ▸ hr
  · intro h
    exact ⟨o, h, by simp⟩

set_option maxRecDepth 20000 in
set_option maxHeartbeats 6400000 in
theorem rorders06 (T : Tab) (hR : TabR T) (q : Option Addr) (c : Nat) (w : World) (hv : ListsAt w q T) :
    Calls Tryz.prog 84 #[.slice q T.length c] w (RetOr (ordsTo T (prL T []).length) w) := by
  have HTR := Lib.hid (fun y (h : Ext w y) => rtruthsAll06 T hR q c y (hv.ext h))
  have HRL := Lib.hid (fun k (h : k < (prL T []).length) => prL_row h)
  have HSU := Lib.hid (fun k (h : k < (prL T []).length) => ordsTo_succ T h)
  have HOC := Lib.hid (fun k => ordsTo_cap T k)
  have HOR := Lib.hid (fun k => ordsTo_rows T k)
  have hll := prL_70 hR
  have hn6 := hR.len
  obtain ⟨L, hL⟩ : ∃ L, L = prL T [] := ⟨_, rfl⟩
  rw [← hL] at HTR HRL HSU HOC hll ⊢
  obtain ⟨i1, hi1, hz1, hy1, hb1⟩ := info_parts info_b
  have HI1 := Lib.hid (⟨hi1, hz1, hy1, hb1⟩ : _ ∧ _ ∧ _ ∧ _)
  clear hv hR hL hi1 hz1 hy1 hb1
  go_enter Tryz.func84, Tryz.ntmps84
  go_upto_region 3 with (go_at_call 70; refine (HTR.out _ (Ext.refl _)).mono ?_; rintro e W ⟨pq, pc, rfl, hE2, hLs⟩)
  have HE := Lib.hid hE2
  have HLS := Lib.hid hLs
  have hwz := hE2.size
  clear hE2 hLs HTR
  go_wp2
  go_loopw [3, 5] (fun u a wr => ∃ (k : Nat) (vs : List Value), k ≤ L.length ∧ a = .int .i64 k ∧ Ext W wr ∧ RwV wr W.heap.size u vs (ordsTo T k) none) (fun _ a _ => L.length - (intOf a).toNat)
  case atStart => exact ⟨0, [], Nat.zero_le _, rfl, Ext.refl _, by unfold ordsTo; exact RwV.nil _ _ _⟩
  case round =>
    obtain ⟨k, vs, hk, rfl, hEW, hR⟩ := hrel
    have HEW := Lib.hid hEW
    have HR := Lib.hid hR
    clear hEW hR
    by_cases hlt : k < L.length
    · have hlt' : (k : Int) < (L.length : Int) := by omega
      obtain ⟨b, o, rq, rc, rfl, hc0, hc1⟩ := HLS.out.at k hlt
      have hsu := HSU.out k hlt
      have hrl := HRL.out k hlt
      obtain ⟨t, ht⟩ : ∃ t, t = L[k] := ⟨_, rfl⟩
      rw [← ht] at hc0 hc1 hsu hrl
      have hoi := rorderIn06 t (by omega) rq rc wr (hc1.ext HEW.out)
      have hol := ordI_len t.length (vT t)
      rw [hrl] at hoi hol
      obtain ⟨π, hπ⟩ : ∃ π, π = ordI T.length (vT t) := ⟨_, rfl⟩
      rw [← hπ] at hoi hol
      unfold ordStep at hsu
      rw [← hπ] at hsu
      have hcap := HOC.out k
      have hrows := HOR.out k
      obtain ⟨O, hO⟩ : ∃ O, O = ordsTo T k := ⟨_, rfl⟩
      rw [← hO] at HR hsu hcap hrows
      have r0 := HEW.out.cell hc0
      rw [hrl] at r0
      have HOI := Lib.hid hoi
      have HSUK := Lib.hid hsu
      have HOL := Lib.hid hol
      have HRW := Lib.hid hrows
      have HLV := Lib.hid HR.out.len
      obtain ⟨pu, cu, rfl, -⟩ := HR.out.lists
      clear hsu hrl ht hoi hπ hO hc0 hc1 hol hrows
      go_upto_region 7 with (go_at_call 103; refine HOI.out.mono ?_; rintro e w3 ⟨u3, rfl, hO3, hE3⟩)
      obtain ⟨po, co, rfl, hi3⟩ := own_ne_ints rfl hO3 none (fun b hb => by cases hb)
      have HR3 := Lib.hid (HR.out.ext hE3)
      have HE3 := Lib.hid (HEW.out.trans hE3)
      have HO3 := Lib.hid hO3
      have HI3 := Lib.hid hi3.ints
      have hs3 := hE3.size
      have HE33 := Lib.hid hE3
      clear hE3 hO3 hi3 r0 HOI
      obtain ⟨pl, hpl⟩ : ∃ n, n = π.length := ⟨_, rfl⟩
      have HPL := Lib.hid hpl
      rw [← hpl]
      clear hpl
      go_wp2
      go_loopw [7, 8] (fun f a wr2 => ∃ (j : Nat) (x : ExtW w3), j ≤ O.length ∧ a = .int .i64 j ∧ f = .bool (inOr O π j) ∧ wr2 = x.w) (fun _ a _ => O.length - (intOf a).toNat)
      case atStart => exact ⟨0, ⟨w3, Ext.refl _⟩, Nat.zero_le _, rfl, rfl, rfl⟩
      case round =>
        obtain ⟨j, x, hj, rfl, rfl, rfl⟩ := hrel
        by_cases hj2 : j < O.length
        · have hj2' : (j : Int) < (O.length : Int) := by omega
          obtain ⟨pu', cu', he', hlo⟩ := HR3.out.lists
          cases he'
          obtain ⟨b5, o5, q5, c5, rfl, h50, h51⟩ := hlo.at j hj2
          have hrl5 := HRW.out _ (List.getElem_mem hj2)
          have his := inOr_succ O π hj2
          obtain ⟨r5, hr5⟩ : ∃ r, r = O[j] := ⟨_, rfl⟩
          rw [← hr5] at h50 h51 his hrl5
          have hsi := SameInts02 q5 po r5 π c5 co x.w (by omega) (by have := HOL.out; omega) (h51.ext x.h) (HI3.out.ext x.h)
          rw [← HPL.out] at hsi
          obtain ⟨bs, hbs⟩ : ∃ b, b = decide (r5 = π) := ⟨_, rfl⟩
          rw [← hbs] at hsi his
          obtain ⟨bf, hbf⟩ : ∃ b, b = inOr O π j := ⟨_, rfl⟩
          rw [← hbf] at his ⊢
          have HSI := Lib.hid hsi
          have HIS := Lib.hid his
          have r5c := x.h.cell h50
          clear hsi his hbs hbf hr5 h50 h51 hlo hrl5
          cases bf with
          | true =>
            go_wp2
            go_roundw
            case rel => exact ⟨j + 1, x, by omega, by simp, by rw [HIS.out]; rfl, rfl⟩
            case measure => simp [intOf]; omega
          | false =>
            go_wp2_with (go_at_call 22; refine HSI.out.mono ?_; rintro e w5 ⟨rfl, hE5⟩)
            go_roundw
            case rel => exact ⟨j + 1, ⟨w5, x.h.trans hE5⟩, by omega, by simp, by rw [HIS.out]; rfl, rfl⟩
            case measure => simp [intOf]; omega
        · obtain rfl : j = O.length := by omega
          have hge : ¬((O.length : Int) < (O.length : Int)) := by omega
          by_cases hin : π ∈ O
          · have hit := (inOr_all O π).2 hin
            have HN := Lib.hid (show ordsTo T (k + 1) = O from by rw [HSUK.out, if_pos hin])
            rw [hit]
            clear hit hin
            go_wp2
            go_roundw
            case rel => exact ⟨k + 1, vs, by omega, by simp, HE3.out.trans x.h, by rw [HN.out]; exact HR3.out.ext x.h⟩
            case measure => simp [intOf]; omega
          · have hit : inOr O π O.length = false := Bool.eq_false_iff.2 fun h => hin ((inOr_all O π).1 h)
            have HN := Lib.hid (show ordsTo T (k + 1) = O ++ [π] from by rw [HSUK.out, if_neg hin])
            rw [hit]
            clear hit hin
            have HR5 := Lib.hid (HR3.out.ext x.h)
            have HNI := Lib.hid (fun r (hr : ∀ b, r = some b → b < wr.heap.size) => (by
              obtain ⟨q', c', he, hn⟩ := own_ne_ints rfl (ownsRow_ext HO3.out x.h) r hr
              cases he
              exact hn : IntsNe r x.w po π))
            have hs5 := x.h.size
            have hvl := HLV.out
            have HEX := Lib.hid (HE3.out.trans x.h)
            have hsz := HEX.out.size
            have hub := fun b hb => (HR.out.out.lt b hb).2
            have HUB := Lib.hid (hub : ∀ b, (Value.slice pu O.length cu).ownBlock = some b → b < wr.heap.size)
            clear hub
            go_wp2_with (at_builtin; refine wpList_append_lies _ rfl (.tmp 39) (.tmp 41) 43 rfl W.heap.size 23 i1 (.slice none 0 0) 1 24 Tryz.underlying43 HI1.out.1 HI1.out.2.1 HI1.out.2.2.1 HI1.out.2.2.2 rfl (by decide) _ O.length vs rfl (by have h := HR5.out.out; rw [hvl] at h; exact h.alloc _) ⟨x.w.heap.size, 0, none⟩ 1 1 [.slice po pl co] rfl rfl (hnewsE (Ext.refl _) rfl) (by intro u hu; simp at hu; subst hu; rfl) (by decide) ?d3 ?d4 ?d5 (x.w.heap.size + 1) (size_alloc _ _) ?_)
            case d3 => unfold maxLen; omega
            case d4 => omega
            case d5 => first | omega | (rw [size_alloc]; omega)
            intro g4 cap4 w4 hown4 hgr4 hat4 hlt4
            have hE4 : Ext W w4 := Below.grown (HEX.out.alloc _) hgr4 (HEX.out.alloc _).size (fun i hi => (HR.out.out.lt i hi).1)
            have hstep := HR5.out.step (r := none) (xs := [.slice po pl co]) (Ms := [π]) ((Ext.refl _).alloc _) rfl (fun i hi => by
              obtain rfl : i = 0 := by simpa using hi
              exact ⟨_, co, by rw [HPL.out]; rfl, (HNI.out _ HUB.out).ext (Ext.alloc (Ext.refl _) _)⟩) (fun i hi => by
              obtain rfl : i = 0 := by simpa using hi
              exact ⟨_, co, by rw [HPL.out]; rfl, (HNI.out _ (fun b hb => by cases hb)).ext (Ext.alloc (Ext.refl _) _)⟩) (by rw [hvl]; exact hown4) hgr4 (by rw [size_alloc]; exact hat4)
            have HE4 := Lib.hid hE4
            have HST := Lib.hid hstep
            clear hown4 hgr4 hat4 hlt4 hE4 hstep hvl
            go_wp2
            go_roundw
            case rel => exact ⟨k + 1, _, by omega, by simp, HE4.out, by rw [HN.out]; exact HST.out⟩
            case measure => simp [intOf]; omega
    · obtain rfl : k = L.length := by omega
      have hge : ¬((L.length : Int) < (L.length : Int)) := by omega
      go_wp2
      go_ret
      exact ⟨_, vs, rfl, HE.out.trans HEW.out, HR.out.base hwz⟩
end Go.Proofs.YtaoamnhchidjfaaGreatDoor
