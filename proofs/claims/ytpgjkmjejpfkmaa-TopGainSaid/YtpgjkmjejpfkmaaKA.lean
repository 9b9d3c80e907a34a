/- The reference's choices: what they are, and one list put before another. The walk of the reference's choices. Reading past a block that is still written: lists of lists read through other blocks. The plain law of the reference: which plans fit, and what it finds among them. Rows put behind rows in new memory, and readings kept while a list of plans grows: what the walk of fitting needs. The walk of the reference's fitting. -/
import Derived.Test.YtpgjkmjejpfkmaaA07a
import Derived.Test.YtpgjkmjejpfkmaaC07d
import Derived.Test.YtpgjkmjejpfkmaaA07d
import Derived.Deep.RegionWith
import Derived.Deep.RegionHeld3
namespace Go.Proofs.Ytpgjkmjejpfkmaa
open Go.RowKit

/-- all lists of so many titles, ascending, of those from a first one on -/
def choL (T : Nat) : Nat → Nat → List (List Int)
  | 0, _ => [[]]
  | m + 1, f => (List.range (T - f)).flatMap fun i => (choL T m (f + i + 1)).map fun l => ((f + i : Nat) : Int) :: l
/-- those that begin with one of the first so many titles -/
def choTo (T m f n : Nat) : List (List Int) := (List.range n).flatMap fun i => (choL T m (f + i + 1)).map fun l => ((f + i : Nat) : Int) :: l
theorem choTo_succ (T m f n : Nat) : choTo T m f (n + 1) = choTo T m f n ++ (choL T m (f + n + 1)).map fun l => ((f + n : Nat) : Int) :: l := by
  unfold choTo
  rw [List.range_succ, List.flatMap_append]
  simp
theorem choL_succ (T m f : Nat) : choL T (m + 1) f = choTo T m f (T - f) := rfl
theorem choL_row (T : Nat) : ∀ m f, ∀ l ∈ choL T m f, l.length = m
  | 0, _, l, hl => by rw [choL, List.mem_singleton] at hl; rw [hl]; rfl
  | m + 1, f, l, hl => by
    rw [choL, List.mem_flatMap] at hl
    obtain ⟨i, -, hl⟩ := hl
    obtain ⟨r, hr, rfl⟩ := List.mem_map.1 hl
    rw [List.length_cons, choL_row T m _ r hr]
theorem choTo_len (T m f : Nat) (c : Nat) (h : ∀ g, (choL T m g).length ≤ c) : ∀ n, (choTo T m f n).length ≤ c * n
  | 0 => by simp [choTo]
  | n + 1 => by
    have h1 := choTo_len T m f c h n
    have h2 := h (f + n + 1)
    rw [choTo_succ, List.length_append, List.length_map, Nat.mul_succ]
    omega
theorem choL_len (T : Nat) (hT : T ≤ 6) : ∀ m f, (choL T m f).length ≤ 6 ^ m
  | 0, _ => by simp [choL]
  | m + 1, f => by
    rw [choL_succ]
    have := choTo_len T m f (6 ^ m) (choL_len T hT m) (T - f)
    have h2 : 6 ^ m * (T - f) ≤ 6 ^ m * 6 := Nat.mul_le_mul_left _ (by omega)
    rw [Nat.pow_succ]
    omega

theorem run_append_owned_zero' {P : Program} {w : World} (base : Nat) (t ty e : TypeId) (i : TypeInfo) (size : Nat) (ht : P.underlying t = some (.slice e)) (hi : P.info? e = some i)
    (v : Value) (n c : Nat) (q : Option Addr) (xs : List Value) (hown : w.ownsRow base e size v n xs) :
    (Builtin.append_ #[t, t] ty #[v, .slice q 0 c]).run P w = .ok v w := run_append_owned_zero base t ty e i size ht hi v n c q xs hown

/-- a list appended to a list of one number -/
theorem wpList_cons_of {w : World} {ops : Array Oper} {rest : List Oper} {o : Oper} {a : Act} {Q : Exit → Act → World → Prop} (hgd : o.guard = none) (s x : Operand)
    (ho : o.op = .call { callee := .builtin .append, args := #[s, x], argTypes := #[23, 23] })
    (H : Nat) (n : Int) (hs : a.eval s = .slice (some ⟨H, 0, none⟩) 1 1) (hown : w.ownsRow H 3 1 (.slice (some ⟨H, 0, none⟩) 1 1) 1 [.int .i64 n]) (hH : H < w.heap.size)
    (p : Option Addr) (l : List Int) (c : Nat) (hx : a.eval x = .slice p l.length c) (hl : IntsAt w p l) (hle : l.length ≤ 1000)
    (h : ∀ g cn w', w'.ownsRow H 3 1 (.slice (some ⟨g, 0, none⟩) (1 + l.length) cn) (1 + l.length) (intVs (n :: l)) → w.grownBy w' (some H) → wpList Try.prog ops Q rest (a.put o.dst (.slice (some ⟨g, 0, none⟩) (1 + l.length) cn)) w') :
    wpList Try.prog ops Q (o :: rest) a w := by
  obtain ⟨i0, hi, hz0, hz1, hz2⟩ := info_parts info_a
  cases l with
  | nil =>
    refine wpList_plain hgd fun K hK => ?_
    have hrun := run_append_owned_zero (P := Try.prog) (w := w) H 23 o.type 3 i0 1 Try.underlying23 hi _ 1 c p [.int .i64 n] hown
    unfold Oper.wp
    simp only [List.length_nil] at hx
    simp [execOp, ho, resolve, invoke, builtin, hs, hx, hrun, Result.andThen]
    exact hK _ _ (h H 1 w hown (World.grownBy.refl _ _))
  | cons y r =>
    obtain ⟨l, hll⟩ : ∃ l, l = y :: r := ⟨_, rfl⟩
    rw [← hll] at h hx hl hle
    have hpos : 0 < l.length := by rw [hll]; simp
    clear hll
    obtain ⟨b0, o0, rfl, -⟩ := hl.at 0 hpos
    refine wpList_append_own w hgd s x 23 ho H 3 i0 (.int .i64 0) 1 8 Try.underlying23 hi hz0 hz1 hz2 rfl (by decide) _ 1 [.int .i64 n] hs hown ⟨b0, o0, none⟩ l.length c (intVs l) hx (by simp [intVs]) ?_ ?_ (by simp only [maxLen]; omega) (by omega) (by omega) ?_
    · intro j u hj
      have hjl : j < l.length := by have := (List.getElem?_eq_some_iff.1 hj).1; rwa [intVs_len] at this
      obtain ⟨b, o', he, hc⟩ := hl.at j hjl
      cases he
      have hu : u = .int .i64 l[j] := by
        have := (List.getElem?_eq_some_iff.1 hj).2
        simp [intVs] at this
        exact this.symm
      rw [hu, ← hc]
      by_cases h0 : j = 0
      · subst h0; rfl
      · simp [Addr.add, h0]
    · intro u hu
      obtain ⟨n, -, rfl⟩ := List.mem_map.1 hu
      rfl
    · intro v' w' ho' hg hnil
      rcases ho'.2 with ⟨rfl, h0⟩ | ⟨g, cap, cur, rfl, -⟩
      · exact absurd h0 (by omega)
      · exact h g cap w' ho' hg

/-- the blocks of rows -/
def inRV (v : Value) (vs : List Value) (b : Nat) : Prop := v.ownBlock = some b ∨ ∃ x ∈ vs, x.ownBlock = some b
theorem RowsV.row_mem {w : World} {B : Nat} {u : Value} {vs : List Value} {L : List (List Int)} (h : RowsV w B u vs L) {x : Value} (hx : x ∈ vs) : ∃ i, ∃ hi : i < L.length, vs[i]? = some x ∧ w.ownsRow B 3 1 x L[i].length (intVs L[i]) := by
  obtain ⟨i, hi, rfl⟩ := List.getElem_of_mem hx
  have hi' : i < L.length := by have := h.len; omega
  obtain ⟨y, h1, h2, -⟩ := h.row i hi'
  rw [List.getElem?_eq_getElem hi] at h1
  cases h1
  exact ⟨i, hi', List.getElem?_eq_getElem hi, h2⟩
theorem RowsV.bd {w : World} {B : Nat} {u : Value} {vs : List Value} {L : List (List Int)} (h : RowsV w B u vs L) {b : Nat} (hb : inRV u vs b) : B ≤ b ∧ b < w.heap.size := by
  rcases hb with hb | ⟨x, hx, hb⟩
  · exact h.out.lt b hb
  · obtain ⟨i, hi, -, h2⟩ := h.row_mem hx
    exact h2.lt b hb
theorem RowsV.ext {w w' : World} {B : Nat} {u : Value} {vs : List Value} {L : List (List Int)} (h : RowsV w B u vs L) (hE : Ext w w') : RowsV w' B u vs L :=
  ⟨h.len, ownsRow_ext h.out hE, fun i hi => by obtain ⟨x, h1, h2, h3⟩ := h.row i hi; exact ⟨x, h1, ownsRow_ext h2 hE, h3⟩⟩
theorem RowsV.base {w : World} {B B' : Nat} {u : Value} {vs : List Value} {L : List (List Int)} (h : RowsV w B u vs L) (hB : B' ≤ B) : RowsV w B' u vs L :=
  ⟨h.len, ownsRow_base h.out hB, fun i hi => by obtain ⟨x, h1, h2, h3⟩ := h.row i hi; exact ⟨x, h1, ownsRow_base h2 hB, h3⟩⟩
theorem RowsV.keep {w w' : World} {B : Nat} {u : Value} {vs : List Value} {L : List (List Int)} {row : Option Nat} (h : RowsV w B u vs L) (hg : w.grownBy w' row) (hn : ∀ b, inRV u vs b → row ≠ some b) : RowsV w' B u vs L := by
  have key : ∀ x : Value, (∀ b, x.ownBlock = some b → row ≠ some b) → x.ownBlock = none ∨ x.ownBlock ≠ row := by
    intro x hx
    cases hb : x.ownBlock with
    | none => exact Or.inl rfl
    | some b => exact Or.inr fun he => hx b hb he.symm
  refine ⟨h.len, h.out.kept hg (key u fun b hb => hn b (Or.inl hb)), fun i hi => ?_⟩
  obtain ⟨x, h1, h2, h3⟩ := h.row i hi
  exact ⟨x, h1, h2.kept hg (key x fun b hb => hn b (Or.inr ⟨x, List.mem_of_getElem? h1, hb⟩)), h3⟩
end Go.Proofs.Ytpgjkmjejpfkmaa
namespace Go.Proofs.Ytpgjkmjejpfkmaa
open Go.RowKit

theorem own_one (w : World) (v : Value) (t : TypeId) : (w.alloc (.cells #[v] t)).ownsRow w.heap.size t 1 (.slice (some ⟨w.heap.size, 0, none⟩) 1 1) 1 [v] :=
  ⟨rfl, Or.inr ⟨w.heap.size, 1, #[v], rfl, Nat.le_refl _, heap_new w _, Nat.le_refl _, by unfold maxLen; omega, rfl, rfl⟩⟩
theorem rows_one (w : World) : RowsV (w.alloc (.cells #[.slice none 0 0] 23)) w.heap.size (.slice (some ⟨w.heap.size, 0, none⟩) 1 1) [.slice none 0 0] [[]] := by
  refine ⟨rfl, own_one w _ _, fun i hi => ?_⟩
  obtain rfl : i = 0 := by simp at hi; exact hi
  exact ⟨_, rfl, World.ownsRow_nil _ _ _ _, Or.inl rfl⟩

set_option maxRecDepth 20000 in
set_option maxHeartbeats 3200000 in
theorem choices07 (T : Nat) (hT : T ≤ 6) : ∀ m : Nat, m ≤ 3 → ∀ f : Nat, f ≤ T → ∀ w : World,
    Calls Try.prog 91 #[.int .i64 T, .int .i64 f, .int .i64 m] w (fun e w' => ∃ v vs, e = .returned v ∧ RowsV w' w.heap.size v vs (choL T m f) ∧ Ext w w') := by
  intro m
  induction m with
  | zero =>
    intro _ f hf w
    go_enter Try.func91, Try.ntmps91
    go_wp2
    go_ret
    exact ⟨_, _, rfl, rows_one w, Ext.alloc (Ext.refl w) _⟩
  | succ m ih =>
    intro hm f hf w
    have IH := Lib.hid (ih (by omega))
    clear ih
    obtain ⟨i1, hi1, hz1, hy1, hb1⟩ := info_parts info_b
    obtain ⟨M, hM⟩ : ∃ M : Nat, M = m + 1 := ⟨_, rfl⟩
    have hw1 : IntKind.i64.wrap ((M : Int) - 1) = (m : Int) := by
      rw [show (M : Int) - 1 = (m : Int) from by omega]
      exact IntWalk.i64_in _ (by omega)
    have hm0 : ((M : Int) == 0) = false := by rw [beq_eq_false_iff_ne]; omega
    have hMM : ((m + 1 : Nat) : Int) = (M : Int) := by rw [hM]
    rw [hMM]
    clear hMM hM
    have HLEN := Lib.hid (choTo_len T m f (6 ^ m) (choL_len T hT m))
    have HCL := Lib.hid (fun g => choL_len T hT m g)
    have h6 : 6 ^ m ≤ 36 := by
      have : 6 ^ m ≤ 6 ^ 2 := Nat.pow_le_pow_right (by decide) (by omega)
      omega
    go_enter Try.func91, Try.ntmps91
    go_wp2
    go_loopw [7, 8] (fun u i wr => ∃ n : Nat, n ≤ T - f ∧ i = .int .i64 ((f + n : Nat) : Int) ∧ Ext w wr ∧ ∃ us, RowsV wr w.heap.size u us (choTo T m f n)) (fun _ i _ => T - (intOf i).toNat)
    case atStart => exact ⟨0, by omega, by simp, Ext.refl _, [], RowsV.nil _ _⟩
    case round =>
      obtain ⟨n, hn, rfl, hE, us, hR⟩ := hrel
      have HR := Lib.hid hR
      have HE := Lib.hid hE
      clear hR hE
      by_cases hlt : n < T - f
      · have hcast : ((f + n : Nat) : Int) < (T : Int) := by omega
        obtain ⟨tt, htt⟩ : ∃ tt : Nat, tt = f + n := ⟨_, rfl⟩
        rw [← htt] at hcast ⊢
        have hCC := IH.out (tt + 1) (by omega) wr
        have HCC := Lib.hid hCC
        have hl0 := HLEN.out n
        have hl1 : 6 ^ m * n ≤ 36 * 6 := Nat.mul_le_mul h6 (by omega)
        have HTT := Lib.hid htt
        clear hCC htt
        go_wp2_with fail
        refine HCC.out.mono ?_
        rintro e w1 ⟨lv, ls, rfl, hL, hE1⟩
        obtain ⟨sub, hsub⟩ : ∃ sub, sub = choL T m (tt + 1) := ⟨_, rfl⟩
        have hsl : sub.length ≤ 36 := by rw [hsub]; exact Nat.le_trans (HCL.out _) h6
        have hrl : ∀ i (h : i < sub.length), sub[i].length = m := fun i h => choL_row T m (tt + 1) _ (by rw [← hsub]; exact List.getElem_mem h)
        rw [← hsub] at hL
        obtain ⟨q, cap, rfl, -⟩ := hL.lists
        obtain ⟨P, hP⟩ : ∃ P, P = choTo T m f n := ⟨_, rfl⟩
        have hPl : P.length ≤ 216 := by rw [hP]; omega
        have hR1 := HR.out.ext hE1
        rw [← hP] at hR1
        have hne1 : ∀ b, inRV (.slice q sub.length cap) ls b → u7.ownBlock ≠ some b := by
          intro b hb he
          have h1 := (hL.bd hb).1
          have h2 := (HR.out.out.lt b he).2
          omega
        have hL1 := hL.base (HE.out.size)
        have hEW := HE.out.trans hE1
        have HSUB := Lib.hid hsub
        have HP := Lib.hid hP
        have HRL := Lib.hid hrl
        have HR1 := Lib.hid hR1
        have HL1 := Lib.hid hL1
        have HNE1 := Lib.hid hne1
        have HEW := Lib.hid hEW
        clear hsub hrl hL hR1 hne1 hL1 hEW hE1 hP hl0 hl1 HR HE HCC
        go_wp2
        go_loopw [7, 10] (fun u i wr => ∃ k : Nat, k ≤ sub.length ∧ i = .int .i64 k ∧ Ext w wr ∧ ∃ us, RowsV wr w.heap.size u us (P ++ (sub.take k).map fun l => (tt : Int) :: l) ∧ RowsV wr w.heap.size (.slice q sub.length cap) ls sub ∧ ∀ b, inRV (.slice q sub.length cap) ls b → u.ownBlock ≠ some b) (fun _ i _ => sub.length - (intOf i).toNat)
        case atStart => exact ⟨0, by omega, rfl, HEW.out, us, by simpa using HR1.out, HL1.out, HNE1.out⟩
        case round =>
          clear HR1 HL1 HNE1 HEW w1 us
          obtain ⟨k, hk, rfl, hE, us, hR, hL, hne⟩ := hrel
          have HR := Lib.hid hR
          have HL := Lib.hid hL
          have HNE := Lib.hid hne
          have HE := Lib.hid hE
          clear hR hL hne hE
          by_cases hlt2 : k < sub.length
          · obtain ⟨x, hx1, hx2, -⟩ := HL.out.row k hlt2
            obtain ⟨px, cx, rfl, hxi⟩ := ownsRow_ints hx2
            have hlsl : ls.length = sub.length := HL.out.len
            obtain ⟨bq, cq, he, hcq⟩ := ownsRow_at HL.out.out k (by omega)
            injection he with he1 he2 he3
            subst he1
            clear he2 he3
            rw [hx1] at hcq
            have hca : ∀ o', (wr.alloc o').cell? ⟨bq, k, none⟩ = some (.slice px sub[k].length cx) := fun o' => (Ext.alloc (Ext.refl wr) o').cell hcq
            have hul : us.length ≤ 300 := by rw [HR.out.len, List.length_append, List.length_map, List.length_take]; omega
            have hle : sub[k].length ≤ 1000 := by rw [HRL.out k hlt2]; omega
            have HXI := Lib.hid hxi
            have hws := HE.out.size
            obtain ⟨sk, hsk⟩ : ∃ sk, sk = sub[k] := ⟨_, rfl⟩
            rw [← hsk] at hca hle HXI
            have HSK := Lib.hid hsk
            clear hx1 hx2 hxi hcq hsk hlsl
            go_upto_region 11 with (fail)
            go_wp2_with (at_builtin; refine wpList_cons_of rfl (.tmp 34) (.tmp 38) rfl wr.heap.size (tt : Int) rfl (own_one wr _ _) (by rw [size_alloc]; omega) px sk cx rfl (HXI.out.ext (Ext.alloc (Ext.refl wr) _)) hle ?_)
            intro g1 cn1 w2 hown2 hgr2
            have hE2 : Ext wr w2 := Below.grown (Ext.alloc (Ext.refl wr) _) hgr2 (by rw [size_alloc]; omega) (fun j hj => by cases hj; exact Nat.le_refl _)
            have HO2 := Lib.hid hown2
            have HE2 := Lib.hid hE2
            have hws2 := hE2.size
            clear hown2 hgr2 hE2 hca HXI
            go_wp2_with (at_builtin; refine wpList_append_lies _ rfl (.tmp 32) (.tmp 40) 22 rfl w.heap.size 23 i1 (.slice none 0 0) 1 24 Try.underlying22 hi1 hz1 hy1 hb1 rfl (by decide) _ us.length _ rfl ((ownsRow_ext HR.out.out HE2.out).alloc _) ⟨w2.heap.size, 0, none⟩ 1 1 [.slice (some ⟨g1, 0, none⟩) (1 + sk.length) cn1] rfl rfl ?c1 ?c2 (by decide) ?c3 ?c4 ?c5 (w2.heap.size + 1) (size_alloc _ _) ?_)
            case c1 =>
              intro j u hj
              match j, hj with
              | 0, hj => simp at hj; subst hj; simp [Addr.add]
            case c2 => intro u hu; simp at hu; subst hu; rfl
            case c3 => unfold maxLen; omega
            case c4 => omega
            case c5 => rw [size_alloc]; omega
            intro g4 cap4 w4 hown4 hgr4 hat4 hlt4
            have hstep := RowsV.step (l := (tt : Int) :: sk) HR.out hws HE2.out (by rw [List.length_cons, Nat.add_comm sk.length 1]; exact HO2.out) hown4 hgr4 (by rw [size_alloc]; exact hat4)
            have hL4 := (HL.out.ext (Ext.alloc HE2.out _)).keep hgr4 HNE.out
            have hne4 : ∀ b, inRV (.slice (some ⟨bq, 0, none⟩) sub.length cap) ls b → (Value.slice (some ⟨g4, 0, none⟩) (us.length + 1) cap4).ownBlock ≠ some b := by
              intro b hb he
              have he' : g4 = b := by simpa [Value.ownBlock] using he
              rcases hat4 with ha | ha
              · exact HNE.out b hb (by rw [ha, he'])
              · have := (HL.out.bd hb).2
                omega
            have hE4 : Ext w w4 := Below.grown ((HE.out.trans HE2.out).alloc _) hgr4 (by rw [size_alloc]; omega) (fun j hj => (HR.out.out.lt j hj).1)
            have HST := Lib.hid hstep
            have HL4 := Lib.hid hL4
            have HNE4 := Lib.hid hne4
            have HE4 := Lib.hid hE4
            clear hown4 hgr4 hat4 hlt4 hstep hL4 hne4 hE4 HO2 HE2 HR HL HNE HE
            go_wp2
            go_roundw
            case rel => exact ⟨k + 1, by omega, by go_num, HE4.out, _, by rw [List.take_succ_eq_append_getElem hlt2, List.map_append, ← List.append_assoc, ← HSK.out]; exact HST.out, HL4.out, HNE4.out⟩
            case measure => simp [intOf]; omega
          · obtain rfl : k = sub.length := by omega
            have hR2 := HR.out
            rw [List.take_length, HP.out, HSUB.out] at hR2
            have hcho := choTo_succ T m f n
            rw [← HTT.out] at hcho
            rw [← hcho] at hR2
            have HR2 := Lib.hid hR2
            clear hR2 hcho
            go_wp2
            go_roundw
            case rel => exact ⟨n + 1, by omega, by have := HTT.out; go_num, HE.out, us, HR2.out⟩
            case measure => simp [intOf]; omega
      · obtain rfl : n = T - f := by omega
        go_wp2
        go_ret
        exact ⟨_, us, rfl, HR.out, HE.out⟩
end Go.Proofs.Ytpgjkmjejpfkmaa
namespace Go.Proofs.Ytpgjkmjejpfkmaa
open Go.RowKit

/-- ints read through blocks that are not r -/
def IntsNe (r : Option Nat) (w : World) (q : Option Addr) (l : List Int) : Prop := ∀ j (h : j < l.length), ∃ b o, q = some ⟨b, o, none⟩ ∧ some b ≠ r ∧ w.cell? ⟨b, o + j, none⟩ = some (.int .i64 l[j])
/-- lists read through blocks that are not r -/
def ListsNe (r : Option Nat) (w : World) (p : Option Addr) (L : List (List Int)) : Prop :=
  ∀ i (h : i < L.length), ∃ b o q c, p = some ⟨b, o, none⟩ ∧ some b ≠ r ∧ w.cell? ⟨b, o + i, none⟩ = some (.slice q L[i].length c) ∧ IntsNe r w q L[i]
theorem IntsNe.ints {r : Option Nat} {w : World} {q : Option Addr} {l : List Int} (h : IntsNe r w q l) : IntsAt w q l := by
  intro j hj
  obtain ⟨b, o, hq, -, hc⟩ := h j hj
  exact ⟨b, o, _, hq, hc, rfl⟩
theorem ListsNe.lists {r : Option Nat} {w : World} {p : Option Addr} {L : List (List Int)} (h : ListsNe r w p L) : ListsAt w p L := by
  intro i hi
  obtain ⟨b, o, q, c, hp, -, hc, hq⟩ := h i hi
  exact ⟨b, o, _, hp, hc, q, c, rfl, hq.ints⟩
theorem IntsAt.ne {w : World} {q : Option Addr} {l : List Int} (h : IntsAt w q l) (r : Option Nat) (hr : ∀ b, r = some b → w.heap.size ≤ b) : IntsNe r w q l := by
  intro j hj
  obtain ⟨b, o, hq, hc⟩ := h.at j hj
  refine ⟨b, o, hq, fun he => ?_, hc⟩
  have h1 := lt_of_cell hc
  have h2 := hr b he.symm
  omega
theorem ListsAt.ne {w : World} {p : Option Addr} {L : List (List Int)} (h : ListsAt w p L) (r : Option Nat) (hr : ∀ b, r = some b → w.heap.size ≤ b) : ListsNe r w p L := by
  intro i hi
  obtain ⟨b, o, q, c, hp, hc, hq⟩ := h.at i hi
  refine ⟨b, o, q, c, hp, fun he => ?_, hc, hq.ne r hr⟩
  have h1 := lt_of_cell hc
  have h2 := hr b he.symm
  omega
theorem IntsNe.ext {r : Option Nat} {w w' : World} {q : Option Addr} {l : List Int} (h : IntsNe r w q l) (hE : Ext w w') : IntsNe r w' q l := by
  intro j hj
  obtain ⟨b, o, hq, hn, hc⟩ := h j hj
  exact ⟨b, o, hq, hn, hE.cell hc⟩
theorem ListsNe.ext {r : Option Nat} {w w' : World} {p : Option Addr} {L : List (List Int)} (h : ListsNe r w p L) (hE : Ext w w') : ListsNe r w' p L := by
  intro i hi
  obtain ⟨b, o, q, c, hp, hn, hc, hq⟩ := h i hi
  exact ⟨b, o, q, c, hp, hn, hE.cell hc, hq.ext hE⟩
theorem IntsNe.grown {r : Option Nat} {w w' : World} {q : Option Addr} {l : List Int} (h : IntsNe r w q l) (hg : w.grownBy w' r) : IntsNe r w' q l := by
  intro j hj
  obtain ⟨b, o, hq, hn, hc⟩ := h j hj
  exact ⟨b, o, hq, hn, hg.cell hc hn⟩
theorem ListsNe.grown {r : Option Nat} {w w' : World} {p : Option Addr} {L : List (List Int)} (h : ListsNe r w p L) (hg : w.grownBy w' r) : ListsNe r w' p L := by
  intro i hi
  obtain ⟨b, o, q, c, hp, hn, hc, hq⟩ := h i hi
  exact ⟨b, o, q, c, hp, hn, hg.cell hc hn, hq.grown hg⟩
/-- past a block that is newer than all -/
theorem ListsNe.fresh {r : Option Nat} {w : World} {p : Option Addr} {L : List (List Int)} (h : ListsNe r w p L) (g : Nat) (hg : w.heap.size ≤ g) : ListsNe (some g) w p L :=
  h.lists.ne (some g) fun b hb => by cases hb; exact hg
/-- a row put behind a plan's rows: what an own slice of rows reads -/
theorem lists_ne_of_own {w : World} {B : Nat} {v : Value} {L : List (List Int)} {vs : List Value} {r : Option Nat} (h : w.ownsRow B 23 1 v L.length vs) (hr : ∀ b, v.ownBlock = some b → some b ≠ r)
    (hv : ∀ i (hi : i < L.length), ∃ q c, vs[i]? = some (.slice q L[i].length c) ∧ IntsNe r w q L[i]) : ∃ p c, v = .slice p L.length c ∧ ListsNe r w p L := by
  have key : ∀ p cc, v = .slice p L.length cc → ListsNe r w p L := by
    intro p cc hvv i hi
    obtain ⟨b, c', he, hc⟩ := ownsRow_at h i hi
    obtain ⟨q, c, h1, h2⟩ := hv i hi
    have hb := hr b (by rw [he]; rfl)
    rw [hvv] at he
    cases he
    exact ⟨b, 0, q, c, rfl, hb, by rw [Nat.zero_add, hc, h1], h2⟩
  rcases h.2 with ⟨hvv, h0⟩ | ⟨b, cap, cur, hvv, -⟩
  · exact ⟨none, 0, by rw [hvv, h0], key none 0 (by rw [hvv, h0])⟩
  · exact ⟨_, cap, hvv, key _ cap hvv⟩

/-- plans that a call has collected: read through blocks that are not the collection's own, nor r -/
structure FitV (w : World) (B : Nat) (v : Value) (vs : List Value) (Ls : List (List (List Int))) (r : Option Nat) : Prop where
  len : vs.length = Ls.length
  out : w.ownsRow B 22 1 v vs.length vs
  row : ∀ i (h : i < Ls.length), ∃ p c, vs[i]? = some (.slice p Ls[i].length c) ∧ ListsNe v.ownBlock w p Ls[i]
  oth : ∀ i (h : i < Ls.length), ∃ p c, vs[i]? = some (.slice p Ls[i].length c) ∧ ListsNe r w p Ls[i]
theorem FitV.nil (w : World) (B : Nat) (r : Option Nat) : FitV w B (.slice none 0 0) [] [] r := ⟨rfl, World.ownsRow_nil _ _ _ _, fun i h => absurd h (by simp), fun i h => absurd h (by simp)⟩
theorem FitV.ext {w w' : World} {B : Nat} {v : Value} {vs : List Value} {Ls : List (List (List Int))} {r : Option Nat} (h : FitV w B v vs Ls r) (hE : Ext w w') : FitV w' B v vs Ls r :=
  ⟨h.len, ownsRow_ext h.out hE, fun i hi => by obtain ⟨p, c, h1, h2⟩ := h.row i hi; exact ⟨p, c, h1, h2.ext hE⟩, fun i hi => by obtain ⟨p, c, h1, h2⟩ := h.oth i hi; exact ⟨p, c, h1, h2.ext hE⟩⟩
/-- plans that another call has collected, appended -/
theorem FitV.step {wr w2 w4 : World} {B n g4 cap4 : Nat} {u : Value} {vs xs : List Value} {Ls Ms : List (List (List Int))} {r : Option Nat} (h : FitV wr B u vs Ls r) (hE : Ext wr w2)
    (hxs : xs.length = Ms.length) (hx : ∀ i (hi : i < Ms.length), ∃ p c, xs[i]? = some (.slice p Ms[i].length c) ∧ ListsNe u.ownBlock w2 p Ms[i]) (hr : ∀ i (hi : i < Ms.length), ∃ p c, xs[i]? = some (.slice p Ms[i].length c) ∧ ListsNe r w2 p Ms[i])
    (h4 : w4.ownsRow B 22 1 (.slice (some ⟨g4, 0, none⟩) n cap4) (vs.length + Ms.length) (vs ++ xs)) (hg : w2.grownBy w4 u.ownBlock) (hat : u.ownBlock = some g4 ∨ g4 = w2.heap.size) :
    FitV w4 B (.slice (some ⟨g4, 0, none⟩) n cap4) (vs ++ xs) (Ls ++ Ms) r := by
  have keep : ∀ {p : Option Addr} {L : List (List Int)}, ListsNe u.ownBlock w2 p L → ListsNe (some g4) w4 p L := by
    intro p L hL
    have h1 := hL.grown hg
    rcases hat with ha | ha
    · rw [ha] at h1; exact h1
    · have h2 := hL.fresh g4 (by omega)
      intro i hi
      obtain ⟨b, o, q, c, hp, hn, hc, hq⟩ := h1 i hi
      obtain ⟨b', o', q', c', hp', hn', hc', hq'⟩ := h2 i hi
      rw [hp] at hp'
      cases hp'
      refine ⟨b, o, q, c, hp, hn', hc, ?_⟩
      have hcc := hg.cell hc' hn
      rw [hc] at hcc
      cases hcc
      intro j hj
      obtain ⟨b2, o2, e2, n2, c2⟩ := hq j hj
      obtain ⟨b3, o3, e3, n3, c3⟩ := hq' j hj
      rw [e2] at e3
      cases e3
      exact ⟨b2, o2, e2, n3, c2⟩
  have keepR : ∀ {p : Option Addr} {L : List (List Int)}, ListsNe u.ownBlock w2 p L → ListsNe r w2 p L → ListsNe r w4 p L := by
    intro p L hL hL2 i hi
    obtain ⟨b, o, q, c, hp, hn, hc, hq⟩ := hL i hi
    obtain ⟨b', o', q', c', hp', hn', hc', hq'⟩ := hL2 i hi
    rw [hp] at hp'
    cases hp'
    rw [hc] at hc'
    cases hc'
    refine ⟨b, o, q, c, hp, hn', hg.cell hc hn, ?_⟩
    intro j hj
    obtain ⟨b2, o2, e2, n2, c2⟩ := hq j hj
    obtain ⟨b3, o3, e3, n3, c3⟩ := hq' j hj
    rw [e2] at e3
    cases e3
    exact ⟨b2, o2, e2, n3, hg.cell c2 n2⟩
  have hget : ∀ i, i < Ls.length → (vs ++ xs)[i]? = vs[i]? := fun i hi => List.getElem?_append_left (by have := h.len; omega)
  have hget2 : ∀ i, ¬i < Ls.length → (vs ++ xs)[i]? = xs[i - Ls.length]? := fun i hi => by rw [List.getElem?_append_right (by have := h.len; omega), h.len]
  refine ⟨by simp [h.len, hxs], by rw [List.length_append, hxs]; exact h4, fun i hi => ?_, fun i hi => ?_⟩
  · rw [List.length_append] at hi
    by_cases hik : i < Ls.length
    · obtain ⟨p, c, h1, h2⟩ := h.row i hik
      rw [List.getElem_append_left hik, hget i hik]
      exact ⟨p, c, h1, keep (h2.ext hE)⟩
    · obtain ⟨p, c, h1, h2⟩ := hx (i - Ls.length) (by omega)
      rw [List.getElem_append_right (by omega), hget2 i hik]
      exact ⟨p, c, h1, keep h2⟩
  · rw [List.length_append] at hi
    by_cases hik : i < Ls.length
    · obtain ⟨p, c, h1, h2⟩ := h.row i hik
      obtain ⟨p', c', h1', h2'⟩ := h.oth i hik
      rw [h1] at h1'
      cases h1'
      rw [List.getElem_append_left hik, hget i hik]
      exact ⟨p, c, h1, keepR (h2.ext hE) (h2'.ext hE)⟩
    · obtain ⟨p, c, h1, h2⟩ := hx (i - Ls.length) (by omega)
      obtain ⟨p', c', h1', h2'⟩ := hr (i - Ls.length) (by omega)
      rw [h1] at h1'
      cases h1'
      rw [List.getElem_append_right (by omega), hget2 i hik]
      exact ⟨p, c, h1, keepR h2 h2'⟩
/-- the values of the rows that are read -/
theorem lists_vals {r : Option Nat} {w : World} {p : Option Addr} {L : List (List Int)} (h : ListsNe r w p L) : ∃ vs : List Value, vs.length = L.length ∧
    ∀ i (hi : i < L.length), ∃ b o q c, p = some ⟨b, o, none⟩ ∧ vs[i]? = some (.slice q L[i].length c) ∧ w.cell? ⟨b, o + i, none⟩ = some (.slice q L[i].length c) ∧ IntsNe r w q L[i] := by
  refine ⟨(List.range L.length).map fun i => match p with | some ad => (w.cell? ⟨ad.block, ad.off + i, none⟩).getD undef | none => undef, by simp, fun i hi => ?_⟩
  obtain ⟨b, o, q, c, rfl, -, hc, hq⟩ := h i hi
  refine ⟨b, o, q, c, rfl, ?_, hc, hq⟩
  simp [hi, hc]
theorem info_plan : (Try.prog.info? 22).map (fun i => (i.zero, i.size, i.bytes)) = some (some (.slice none 0 0), 1, 24) := by kernel_rfl

/-- something, perhaps nothing, appended to an own slice: at a step of a region that draws its order -/
theorem step_append_any {w : World} {ops : Array Oper} {o : Oper} {a : Act} {K : Act → World → Prop} {Q : Exit → Act → World → Prop} {E : Prop} (hgd : o.guard = none) (s x : Operand) (t : TypeId)
    (ho : o.op = .call { callee := .builtin .append, args := #[s, x], argTypes := #[t, t] })
    (base : Nat) (e : TypeId) (i : TypeInfo) (z : Value) (size bytes : Nat) (ht : Try.prog.underlying t = some (.slice e)) (hi : Try.prog.info? e = some i) (hz : i.zero = some z)
    (hsize : i.size = size) (hby : i.bytes = bytes) (hzs : z.cells.size = size) (hsz : 0 < size)
    (v : Value) (n : Nat) (xs : List Value) (hs : a.eval s = v) (hown : w.ownsRow base e size v n xs)
    (q : Option Addr) (m c : Nat) (news : List Value) (hx : a.eval x = .slice q m c) (hl : news.length = m * size) (hnews : ∀ ad, q = some ad → ∀ j u, news[j]? = some u → w.cell? (ad.add j) = some u) (hq : q = none → m = 0) (h1 : ∀ u ∈ news, u.oneCell' = true)
    (h63 : n + m ≤ maxLen) (hbytes : (n + m) * bytes ≤ 140737488355328) (hbase : base ≤ w.heap.size)
    (h : ∀ v' w', w'.ownsRow base e size v' (n + m) (xs ++ news) → w.grownBy w' v.ownBlock → (v' = v ∧ w' = w ∧ m = 0 ∨ ∃ g cap, v' = .slice (some ⟨g, 0, none⟩) (n + m) cap ∧ (v.ownBlock = some g ∨ g = w.heap.size)) → K (a.put o.dst v') w') :
    if Region.wanted o (yielded ops a.tmps) = true then Oper.wp Try.prog o a w K Q else E := by
  by_cases hm : m = 0
  · subst hm
    have hw : Region.wanted o (yielded ops a.tmps) = true := by simp [Region.wanted, hgd]
    rw [if_pos hw]
    have hnn : news = [] := List.length_eq_zero_iff.1 (by rw [hl]; simp)
    subst hnn
    have hrun := run_append_owned_zero (P := Try.prog) (w := w) base t o.type e i size ht hi v n c q xs hown
    unfold Oper.wp
    simp [execOp, ho, resolve, invoke, builtin, hs, hx, hrun, Result.andThen]
    exact h v w (by simpa using hown) (World.grownBy.refl _ _) (Or.inl ⟨rfl, rfl, rfl⟩)
  · cases q with
    | none => exact absurd (hq rfl) hm
    | some ad =>
      exact step_append_lies w hgd s x t ho base e i z size bytes ht hi hz hsize hby hzs hsz v n xs hs hown ad m c news hx hl (hnews ad rfl) h1 (by omega) h63 hbytes hbase w.heap.size rfl
        fun g cap w' k1 k2 k3 _ => h _ w' k1 k2 (Or.inr ⟨g, cap, rfl, k3⟩)
end Go.Proofs.Ytpgjkmjejpfkmaa
namespace Go.Proofs.Ytpgjkmjejpfkmaa
open Go.RowKit

theorem rises_cons {x : Int} {l : List Int} {lo hi : Int} : Rises (x :: l) lo hi ↔ (lo ≤ x ∧ x ≤ hi) ∧ Rises l (x + 1) hi ∧ Rises l lo hi := by
  constructor
  · intro h
    have h0 := h.1 0 (by simp)
    refine ⟨h0, ⟨fun i hi => ?_, fun i hi => ?_⟩, ⟨fun i hi => ?_, fun i hi => ?_⟩⟩
    · have h1 := h.1 (i + 1) (by simpa using hi)
      have h2 := h.lt (i + 1) 0 (by simpa using hi) (by omega)
      simp only [List.getElem_cons_zero, List.getElem_cons_succ] at h1 h2
      omega
    · have := h.2 (i + 1) (by simpa using hi)
      simpa using this
    · have := h.1 (i + 1) (by simpa using hi)
      simpa using this
    · have := h.2 (i + 1) (by simpa using hi)
      simpa using this
  · rintro ⟨h1, h2, h3⟩
    refine ⟨fun i hi => ?_, fun i hi => ?_⟩
    · cases i with
      | zero => exact h1
      | succ i =>
        have := h3.1 i (by simpa using hi)
        simpa using this
    · cases i with
      | zero =>
        have hl : 0 < l.length := by simp at hi; omega
        have := (h2.1 0 hl).1
        show x < l[0]
        omega
      | succ i =>
        have := h3.2 i (by simpa using hi)
        simpa using this
theorem rises_nil (lo hi : Int) : Rises [] lo hi := ⟨fun i h => absurd h (by simp), fun i h => absurd h (by simp)⟩
theorem mem_choL (T : Nat) : ∀ m f (l : List Int), l ∈ choL T m f ↔ l.length = m ∧ Rises l f ((T : Int) - 1)
  | 0, f, l => by
    rw [choL, List.mem_singleton]
    constructor
    · rintro rfl; exact ⟨rfl, rises_nil _ _⟩
    · rintro ⟨h, -⟩; exact List.length_eq_zero_iff.1 h
  | m + 1, f, l => by
    rw [choL, List.mem_flatMap]
    constructor
    · rintro ⟨i, hi, hl⟩
      obtain ⟨r, hr, rfl⟩ := List.mem_map.1 hl
      obtain ⟨h1, h2⟩ := (mem_choL T m _ r).1 hr
      have hi' := List.mem_range.1 hi
      refine ⟨by simp [h1], rises_cons.2 ⟨⟨by omega, by omega⟩, ⟨fun j hj => ?_, h2.2⟩, ⟨fun j hj => ?_, h2.2⟩⟩⟩
      · have := h2.1 j hj; omega
      · have := h2.1 j hj; omega
    · rintro ⟨h1, h2⟩
      cases l with
      | nil => simp at h1
      | cons x r =>
        obtain ⟨k1, k2, -⟩ := rises_cons.1 h2
        refine ⟨(x - f).toNat, List.mem_range.2 (by omega), List.mem_map.2 ⟨r, (mem_choL T m _ r).2 ⟨by simpa using h1, ?_⟩, ?_⟩⟩
        · have e : ((f + (x - f).toNat + 1 : Nat) : Int) = x + 1 := by omega
          rw [e]; exact k2
        · have e : ((f + (x - f).toNat : Nat) : Int) = x := by omega
          rw [e]

/-- all plans that fit, and begin with some boxes -/
noncomputable def fitL (S : Swap) : Nat → List (List Int) → List (List (List Int))
  | 0, first => if bP (FitP S first) = true then [first] else []
  | d + 1, first => (choL S.stock.length (S.boxes.getD first.length []).length 0).flatMap fun l =>
      if (chOf (S.boxes.getD first.length []) l : Int) ≤ S.changes then fitL S d (first ++ [l]) else []

theorem mem_fitL (S : Swap) : ∀ d (first L : List (List Int)), (L ∈ fitL S d first ↔ ∃ R : List (List Int), L = first ++ R ∧ R.length = d ∧ FitP S L ∧
    ∀ j (h : j < R.length), R[j].length = (S.boxes.getD (first.length + j) []).length ∧ Rises R[j] 0 ((S.stock.length : Int) - 1) ∧ (chOf (S.boxes.getD (first.length + j) []) R[j] : Int) ≤ S.changes)
  | 0, first, L => by
    unfold fitL
    constructor
    · intro h
      split at h
      · rename_i hb
        rw [List.mem_singleton.1 h]
        exact ⟨[], by simp, rfl, bP_iff.1 hb, fun j hj => absurd hj (by simp)⟩
      · exact absurd h (by simp)
    · rintro ⟨R, rfl, hR, hF, -⟩
      obtain rfl := List.length_eq_zero_iff.1 hR
      rw [List.append_nil] at hF ⊢
      rw [if_pos (bP_t hF)]
      simp
  | d + 1, first, L => by
    unfold fitL
    rw [List.mem_flatMap]
    constructor
    · rintro ⟨l, hl, hL⟩
      split at hL
      · rename_i hc
        obtain ⟨h1, h2⟩ := (mem_choL _ _ _ _).1 hl
        obtain ⟨R, rfl, hR, hF, hj⟩ := (mem_fitL S d (first ++ [l]) L).1 hL
        refine ⟨l :: R, by simp, by simp [hR], hF, fun j hjl => ?_⟩
        cases j with
        | zero => exact ⟨h1, h2, hc⟩
        | succ j =>
          have := hj j (by simpa using hjl)
          rw [List.length_append, List.length_singleton] at this
          simp only [List.getElem_cons_succ]
          rw [show first.length + (j + 1) = first.length + 1 + j from by omega]
          exact this
      · exact absurd hL (by simp)
    · rintro ⟨R, rfl, hR, hF, hj⟩
      cases R with
      | nil => simp at hR
      | cons l R =>
        obtain ⟨h1, h2, h3⟩ := hj 0 (by simp)
        refine ⟨l, (mem_choL _ _ _ _).2 ⟨h1, h2⟩, ?_⟩
        simp only [List.getElem_cons_zero, Nat.add_zero] at h3
        rw [if_pos h3]
        refine (mem_fitL S d (first ++ [l]) _).2 ⟨R, by simp, by simpa using hR, hF, fun j hjl => ?_⟩
        have := hj (j + 1) (by simpa using hjl)
        rw [List.length_append, List.length_singleton]
        simp only [List.getElem_cons_succ] at this
        rw [show first.length + (j + 1) = first.length + 1 + j from by omega] at this
        exact this
/-- all plans that fit -/
noncomputable def fitA (S : Swap) : List (List (List Int)) := fitL S S.boxes.length []
theorem mem_fitA {S : Swap} (L : List (List Int)) : L ∈ fitA S ↔ IsPlan S L ∧ FitP S L := by
  unfold fitA
  rw [mem_fitL]
  constructor
  · rintro ⟨R, rfl, hR, hF, hj⟩
    refine ⟨⟨hR, fun i hi => ?_⟩, hF⟩
    have := hj i hi
    simp only [List.length_nil, Nat.zero_add] at this
    exact ⟨this.1, this.2.1⟩
  · rintro ⟨hP, hF⟩
    refine ⟨L, rfl, hP.1, hF, fun j hj => ?_⟩
    have h1 := hP.2 j hj
    have h2 := hF.ch j hj
    simp only [List.length_nil, Nat.zero_add]
    exact ⟨h1.1, h1.2, h2⟩

/-- what the reference finds -/
def maxE (S : Swap) (l : List (List (List Int))) : Int := l.foldl (fun n L => max n (earnsAll S L)) 0
theorem maxE_snoc (S : Swap) (l : List (List (List Int))) (L : List (List Int)) : maxE S (l ++ [L]) = max (maxE S l) (earnsAll S L) := by simp [maxE]
theorem maxE_ge (S : Swap) (l : List (List (List Int))) : 0 ≤ maxE S l ∧ ∀ L ∈ l, earnsAll S L ≤ maxE S l := by
  induction l using snocInd with
  | h0 => exact ⟨Int.le_refl _, by simp⟩
  | hs l x ih =>
    rw [maxE_snoc]
    refine ⟨by omega, fun L hL => ?_⟩
    rcases List.mem_append.1 hL with h | h
    · have := ih.2 L h; omega
    · rw [List.mem_singleton.1 h]; omega
theorem maxE_le (S : Swap) (l : List (List (List Int))) (m : Int) (h0 : 0 ≤ m) (h : ∀ L ∈ l, earnsAll S L ≤ m) : maxE S l ≤ m := by
  induction l using snocInd with
  | h0 => exact h0
  | hs l x ih =>
    rw [maxE_snoc]
    have := ih (fun L hL => h L (by simp [hL]))
    have := h x (by simp)
    omega
theorem fit_sum {S : Swap} (hS : Valid S) {L : List (List Int)} (hL : IsPlan S L) : sumTo (openV S) (planTo L L.length) S.boxes.length = earnsAll S L := by
  rw [← hL.1, plan_sum hS hL _ (Nat.le_refl _)]; rfl
theorem maxE_best {S : Swap} (hS : Valid S) : maxE S (fitA S) = bestN (openV S) := by
  obtain ⟨b1, b2, b3, -⟩ := best_plan hS
  have hb := (fair_best hS).2.2.1
  have h1 := (maxE_ge S (fitA S)).2 _ ((mem_fitA _).2 ⟨b1, b2⟩)
  have h2 := maxE_le S (fitA S) (bestN (openV S)) hb (fun L hL => by
    obtain ⟨h3, h4⟩ := (mem_fitA L).1 hL
    have := best_ge (openV_ok hS) _ _ ((plan_mem hS h3).2 h4)
    rw [show (openV S).S.boxes.length = S.boxes.length from rfl, fit_sum hS h3] at this
    exact this)
  omega
end Go.Proofs.Ytpgjkmjejpfkmaa
namespace Go.Proofs.Ytpgjkmjejpfkmaa
open Go.RowKit

def StpK (a b : World) : Prop := Ext a b
theorem StpK.out {a b : World} (h : StpK a b) : Ext a b := h
theorem StpK.mk {a b : World} (h : Ext a b) : StpK a b := h
theorem size_drewK (w : World) : w.drew.heap.size = w.heap.size := rfl
theorem own_madeK {w : World} {t : TypeId} {size g : Nat} (hg : g = w.heap.size) : (w.alloc (.cells #[] t)).ownsRow g t size (.slice (some ⟨g, 0, none⟩) 0 0) 0 [] := by
  subst hg
  exact World.ownsRow_made w #[] 0 (Nat.le_refl _) (by decide) (by simp : (#[] : Array Value).size = 0 * size)
theorem own_drewK {w : World} {B : Nat} {e : TypeId} {size : Nat} {v : Value} {n : Nat} {xs : List Value} (h : w.ownsRow B e size v n xs) : w.drew.ownsRow B e size v n xs := ownsRow_ext h (Ext.drew (Ext.refl _))
theorem own_stepK {w w' : World} {B : Nat} {e : TypeId} {size : Nat} {v : Value} {n : Nat} {xs : List Value} (h : w.ownsRow B e size v n xs) (k : StpK w w') : w'.ownsRow B e size v n xs := ownsRow_ext h k.out
theorem grown_step {W x w4 : World} {r : Option Nat} (hE : Ext W x) (hg : x.grownBy w4 r) (hr : ∀ b, r = some b → W.heap.size ≤ b) : StpK W w4 := Below.grown hE hg hE.size hr
/-- a reading past two blocks, when the first of them grows -/
theorem ListsNe.keep2 {w w' : World} {g r : Option Nat} {p : Option Addr} {L : List (List Int)} (hL : ListsNe g w p L) (hL2 : ListsNe r w p L) (hg : w.grownBy w' g) : ListsNe r w' p L := by
  intro i hi
  obtain ⟨b, o, q, c, hp, hn, hc, hq⟩ := hL i hi
  obtain ⟨b', o', q', c', hp', hn', hc', hq'⟩ := hL2 i hi
  rw [hp] at hp'
  cases hp'
  rw [hc] at hc'
  cases hc'
  refine ⟨b, o, q, c, hp, hn', hg.cell hc hn, ?_⟩
  intro j hj
  obtain ⟨b2, o2, e2, n2, c2⟩ := hq j hj
  obtain ⟨b3, o3, e3, n3, c3⟩ := hq' j hj
  rw [e2] at e3
  cases e3
  exact ⟨b2, o2, e2, n3, hg.cell c2 n2⟩
/-- a reading past a block, when this has grown or has been left for a new one -/
theorem ListsNe.keep1 {w w' : World} {g : Option Nat} {n : Nat} {p : Option Addr} {L : List (List Int)} (hL : ListsNe g w p L) (hg : w.grownBy w' g) (hat : g = some n ∨ n = w.heap.size) : ListsNe (some n) w' p L := by
  rcases hat with ha | ha
  · rw [← ha]; exact hL.grown hg
  · exact hL.keep2 (hL.fresh n (by omega)) hg
/-- rows read through new blocks only -/
theorem RowsV.ne {w : World} {B : Nat} {v : Value} {vs : List Value} {L : List (List Int)} (h : RowsV w B v vs L) (r : Option Nat) (hr : ∀ b, r = some b → b < B ∨ w.heap.size ≤ b) : ∃ p c, v = .slice p L.length c ∧ ListsNe r w p L := by
  have ho : w.ownsRow B 23 1 v L.length vs := h.len ▸ h.out
  refine lists_ne_of_own ho (fun b hb he => ?_) fun i hi => ?_
  · have := ho.lt b hb
    have := hr b he.symm
    omega
  · obtain ⟨x, h1, h2, -⟩ := h.row i hi
    obtain ⟨q, c, rfl, hq⟩ := ownsRow_ints h2
    refine ⟨q, c, h1, fun j hj => ?_⟩
    obtain ⟨b, o, rfl, hc⟩ := hq.at j hj
    have hb := h2.lt b rfl
    exact ⟨b, o, rfl, fun he => by have := hr b he.symm; omega, hc⟩

/-- the operation that is at hand, checked before all else -/
theorem guard_op {ops : Array Oper} {E : Prop} {w : World} {o : Oper} {a : Act} {K : Act → World → Prop} {Q : Exit → Act → World → Prop} (c : Op) (_ho : o.op = c)
    (h : if Region.wanted o (yielded ops a.tmps) = true then Oper.wp Try.prog o a w K Q else E) : if Region.wanted o (yielded ops a.tmps) = true then Oper.wp Try.prog o a w K Q else E := h
/-- rows appended to a new empty slice of rows -/
theorem step_rows_of {ops : Array Oper} {E : Prop} {w w0 : World} {o : Oper} {a : Act} {K : Act → World → Prop} {Q : Exit → Act → World → Prop} (hgd : o.guard = none) (s x : Operand)
    (ho : o.op = .call { callee := .builtin .append, args := #[s, x], argTypes := #[22, 22] })
    (H : Nat) (hs : a.eval s = .slice (some ⟨H, 0, none⟩) 0 0) (p : Option Addr) (L : List (List Int)) (c : Nat) (hx : a.eval x = .slice p L.length c)
    (hown : w.ownsRow H 23 1 (.slice (some ⟨H, 0, none⟩) 0 0) 0 [])
    (hl : ListsAt w0 p L) (hE0 : Ext w0 w) (hle : L.length ≤ 1000)
    (h : ∀ g cn w' vs, w'.ownsRow g 23 1 (.slice (some ⟨g, 0, none⟩) L.length cn) L.length vs → (∀ r, ListsNe r w0 p L → ∀ i (hi : i < L.length), ∃ q c, vs[i]? = some (.slice q L[i].length c) ∧ IntsNe r w0 q L[i]) → Ext w w' → (g = H ∨ g = w.heap.size) → K (a.put o.dst (.slice (some ⟨g, 0, none⟩) L.length cn)) w') :
    if Region.wanted o (yielded ops a.tmps) = true then Oper.wp Try.prog o a w K Q else E := by
  have hw : Region.wanted o (yielded ops a.tmps) = true := by simp [Region.wanted, hgd]
  rw [if_pos hw]
  obtain ⟨i0, hi, hz0, hz1, hz2⟩ := info_parts info_b
  obtain ⟨vs, hvl, hvv⟩ := lists_vals (hl.ne none (fun b hb => by cases hb))
  have hrow : ∀ r, ListsNe r w0 p L → ∀ i (hi : i < L.length), ∃ q c, vs[i]? = some (.slice q L[i].length c) ∧ IntsNe r w0 q L[i] := by
    intro r hr i hi
    obtain ⟨b, o, q, c, hp, h1, h2, -⟩ := hvv i hi
    obtain ⟨b', o', q', c', hp', -, h2', h3'⟩ := hr i hi
    rw [hp] at hp'
    cases hp'
    rw [h2] at h2'
    cases h2'
    exact ⟨q, c, h1, h3'⟩
  by_cases h0 : L.length = 0
  · have hrun := run_append_owned_zero (P := Try.prog) (w := w) H 22 o.type 23 i0 1 Try.underlying22 hi _ 0 c p [] hown
    unfold Oper.wp
    rw [h0] at hx
    simp [execOp, ho, resolve, invoke, builtin, hs, hx, hrun, Result.andThen]
    have hvs : vs = [] := List.length_eq_zero_iff.1 (by omega)
    have := h H 0 w vs (by rw [h0, hvs]; exact hown) hrow (Ext.refl w) (Or.inl rfl)
    rw [h0] at this
    exact this
  · have hpos : 0 < L.length := by omega
    obtain ⟨b0, o0, q0, c0, rfl, -⟩ := hl.at 0 hpos
    refine wp_new_row s x 22 ho 23 i0 (.slice none 0 0) 1 24 Try.underlying22 hi hz0 hz1 hz2 rfl (by decide) _ hs ⟨b0, o0, none⟩ L.length c vs hx (by simp [hvl]) ?_ hpos hle ?_
    · intro j u hj
      have hjl : j < L.length := by have := (List.getElem?_eq_some_iff.1 hj).1; omega
      obtain ⟨b, o', q, c', he, h1, h2, -⟩ := hvv j hjl
      cases he
      rw [h1] at hj
      cases hj
      rw [← hE0.cell h2]
      by_cases h0 : j = 0
      · subst h0; rfl
      · simp [Addr.add, h0]
    · intro cap w' hE ho' hlt
      exact h _ cap w' vs ho' hrow hE (Or.inr rfl)

/-- a plan with a row behind its rows: what is read -/
theorem snoc_ne {w : World} {B : Nat} {v : Value} {L : List (List Int)} {l : List Int} {vs : List Value} {q : Option Addr} {c : Nat} {r : Option Nat} {w0 : World}
    (h : w.ownsRow B 23 1 v (L.length + 1) (vs ++ [.slice q l.length c])) (hvl : vs.length = L.length) (hE : Ext w0 w)
    (hr : ∀ b, v.ownBlock = some b → some b ≠ r) (hv : ∀ i (hi : i < L.length), ∃ q c, vs[i]? = some (.slice q L[i].length c) ∧ IntsNe r w0 q L[i]) (hl : IntsNe r w0 q l) :
    ∃ p c, v = .slice p (L ++ [l]).length c ∧ ListsNe r w p (L ++ [l]) := by
  refine lists_ne_of_own (vs := vs ++ [.slice q l.length c]) (by rw [List.length_append, List.length_singleton]; exact h) hr fun i hi => ?_
  rw [List.length_append, List.length_singleton] at hi
  by_cases hlt : i < L.length
  · obtain ⟨q', c', h1, h2⟩ := hv i hlt
    rw [List.getElem_append_left hlt, List.getElem?_append_left (by omega)]
    exact ⟨q', c', h1, h2.ext hE⟩
  · obtain rfl : i = L.length := by omega
    refine ⟨q, c, ?_, ?_⟩
    · rw [List.getElem?_append_right (by omega)]
      simp [hvl]
    · simpa using hl.ext hE

theorem fitL_len (S : Swap) (hT : S.stock.length ≤ 6) (hB : ∀ i (h : i < S.boxes.length), S.boxes[i].length ≤ 3) : ∀ d (first : List (List Int)), (fitL S d first).length ≤ 216 ^ d
  | 0, first => by unfold fitL; split <;> simp
  | d + 1, first => by
    unfold fitL
    have hc : (choL S.stock.length (S.boxes.getD first.length []).length 0).length ≤ 216 := by
      refine Nat.le_trans (choL_len _ hT _ _) ?_
      have hb : (S.boxes.getD first.length []).length ≤ 3 := by
        by_cases h : first.length < S.boxes.length
        · rw [getD_of_lt _ _ _ h]; exact hB _ h
        · simp [List.getD, List.getElem?_eq_none (by omega : S.boxes.length ≤ first.length)]
      exact Nat.pow_le_pow_right (n := 6) (by decide) hb
    have key : ∀ (xs : List (List Int)) (f : List Int → List (List (List Int))), (∀ x, (f x).length ≤ 216 ^ d) → (xs.flatMap f).length ≤ xs.length * 216 ^ d := by
      intro xs f hf
      induction xs with
      | nil => simp
      | cons x xs ih =>
        have := hf x
        rw [List.flatMap_cons, List.length_append, List.length_cons, Nat.succ_mul]
        omega
    refine Nat.le_trans (key _ _ fun l => ?_) (Nat.le_trans (Nat.mul_le_mul_right _ hc) ?_)
    · split
      · exact fitL_len S hT hB d _
      · exact Nat.zero_le _
    · rw [Nat.pow_succ, Nat.mul_comm]; exact Nat.le_refl _

/-- the plans that begin with one of the first so many lists -/
noncomputable def fitTo (S : Swap) (d : Nat) (first : List (List Int)) (ls : List (List Int)) (k : Nat) : List (List (List Int)) :=
  (ls.take k).flatMap fun l => if (chOf (S.boxes.getD first.length []) l : Int) ≤ S.changes then fitL S d (first ++ [l]) else []
theorem fitTo_succ {S : Swap} {d : Nat} {first ls : List (List Int)} {k : Nat} (h : k < ls.length) :
    fitTo S d first ls (k + 1) = fitTo S d first ls k ++ if (chOf (S.boxes.getD first.length []) ls[k] : Int) ≤ S.changes then fitL S d (first ++ [ls[k]]) else [] := by
  unfold fitTo
  rw [List.take_succ_eq_append_getElem h, List.flatMap_append]
  simp
theorem fitTo_all (S : Swap) (d : Nat) (first : List (List Int)) : fitTo S d first (choL S.stock.length (S.boxes.getD first.length []).length 0) (choL S.stock.length (S.boxes.getD first.length []).length 0).length = fitL S (d + 1) first := by
  unfold fitTo
  rw [List.take_length]
  rfl
theorem fitTo_len (S : Swap) (hT : S.stock.length ≤ 6) (hB : ∀ i (h : i < S.boxes.length), S.boxes[i].length ≤ 3) (d : Nat) (first ls : List (List Int)) : ∀ k, (fitTo S d first ls k).length ≤ k * 216 ^ d
  | 0 => by simp [fitTo]
  | k + 1 => by
    have h1 := fitTo_len S hT hB d first ls k
    by_cases h : k < ls.length
    · rw [fitTo_succ h, List.length_append, Nat.succ_mul]
      have h2 := fitL_len S hT hB d (first ++ [ls[k]])
      split
      · omega
      · simp; omega
    · have : fitTo S d first ls (k + 1) = fitTo S d first ls k := by
        unfold fitTo
        rw [List.take_of_length_le (by omega), List.take_of_length_le (by omega)]
      rw [this]
      exact Nat.le_trans h1 (Nat.mul_le_mul_right _ (Nat.le_succ k))

theorem FitV.slice {w : World} {B : Nat} {v : Value} {vs : List Value} {Ls : List (List (List Int))} {r : Option Nat} (h : FitV w B v vs Ls r) : ∃ q cap, v = .slice q vs.length cap := by
  rcases h.out.2 with ⟨hv, h0⟩ | ⟨b, cap, cur, hv, -⟩
  · exact ⟨none, 0, by rw [hv, h0]⟩
  · exact ⟨_, cap, hv⟩
theorem FitV.base {w : World} {B B' : Nat} {v : Value} {vs : List Value} {Ls : List (List (List Int))} {r : Option Nat} (h : FitV w B v vs Ls r) (hB : B' ≤ B) : FitV w B' v vs Ls r :=
  ⟨h.len, ownsRow_base h.out hB, h.row, h.oth⟩
/-- what an own slice of rows holds, read as the sources of an append -/
theorem own_news {w : World} {B : Nat} {e : TypeId} {q : Option Addr} {n c : Nat} {vs : List Value} (h : w.ownsRow B e 1 (.slice q n c) vs.length vs) : ∀ ad, q = some ad → ∀ j u, vs[j]? = some u → w.cell? (ad.add j) = some u := by
  intro ad hq j u hj
  have hjl : j < vs.length := (List.getElem?_eq_some_iff.1 hj).1
  obtain ⟨b, cc, he, hc⟩ := ownsRow_at h j hjl
  injection he with he1 he2 he3
  rw [hq] at he1
  cases he1
  rw [hj] at hc
  rw [← hc]
  by_cases h0 : j = 0
  · subst h0; rfl
  · simp [Addr.add, h0]
/-- plans that a call has returned, appended to those collected so far -/
theorem fit_grow {wr w3 w4 : World} {B B3 : Nat} {u v3 v4 : Value} {vs vs3 : List Value} {Ls Ms : List (List (List Int))} {r : Option Nat} (hF : FitV wr B u vs Ls r) (hE : Ext wr w3)
    (h3u : FitV w3 B3 v3 vs3 Ms u.ownBlock) (h3r : FitV w3 B3 v3 vs3 Ms r)
    (h4 : w4.ownsRow B 22 1 v4 (vs.length + vs3.length) (vs ++ vs3)) (hg : w3.grownBy w4 u.ownBlock)
    (hat : v4 = u ∧ w4 = w3 ∧ vs3.length = 0 ∨ ∃ g cap, v4 = .slice (some ⟨g, 0, none⟩) (vs.length + vs3.length) cap ∧ (u.ownBlock = some g ∨ g = w3.heap.size)) :
    FitV w4 B v4 (vs ++ vs3) (Ls ++ Ms) r := by
  rcases hat with ⟨rfl, rfl, h0⟩ | ⟨g, cap, rfl, hat⟩
  · have e1 : vs3 = [] := List.length_eq_zero_iff.1 h0
    have e2 : Ms = [] := List.length_eq_zero_iff.1 (by have := h3u.len; omega)
    subst e1
    subst e2
    rw [List.append_nil, List.append_nil]
    exact hF.ext hE
  · exact hF.step hE h3u.len h3u.oth h3r.oth (by rw [← h3u.len]; exact h4) hg hat
theorem lists_grow {wr w3 w4 : World} {u v4 : Value} {n m : Nat} {q : Option Addr} {L : List (List Int)} (hL : ListsNe u.ownBlock wr q L) (hE : Ext wr w3) (hg : w3.grownBy w4 u.ownBlock)
    (hat : v4 = u ∧ w4 = w3 ∧ m = 0 ∨ ∃ g cap, v4 = .slice (some ⟨g, 0, none⟩) n cap ∧ (u.ownBlock = some g ∨ g = w3.heap.size)) : ListsNe v4.ownBlock w4 q L := by
  rcases hat with ⟨rfl, rfl, h0⟩ | ⟨g, cap, rfl, hat⟩
  · exact hL.ext hE
  · exact (hL.ext hE).keep1 hg hat
theorem hnewsE {w w' : World} {v : Value} {t : TypeId} {g : Nat} (hE : Ext (w.alloc (.cells #[v] t)) w') (hg : g = w.heap.size) : ∀ j u, [v][j]? = some u → w'.cell? ((⟨g, 0, none⟩ : Addr).add j) = some u := by
  intro j u hj
  subst hg
  match j, hj with
  | 0, hj =>
    simp at hj
    subst hj
    have := hE.cell ((cell_of_heap (heap_new w (.cells #[v] t)) 0).trans rfl)
    simpa [Addr.add] using this
theorem one_slice (q : Option Addr) (n c : Nat) : ∀ u ∈ [Value.slice q n c], u.oneCell' = true := by
  intro u hu; simp at hu; subst hu; rfl
theorem own_all_one {w : World} {B : Nat} {v : Value} {vs : List Value} {Ls : List (List (List Int))} {r : Option Nat} (h : FitV w B v vs Ls r) : ∀ u ∈ vs, u.oneCell' = true := by
  intro u hu
  obtain ⟨i, hi, rfl⟩ := List.getElem_of_mem hu
  obtain ⟨p, c, h1, -⟩ := h.row i (by have := h.len; omega)
  rw [List.getElem?_eq_getElem hi] at h1
  rw [Option.some.inj h1]
  rfl
theorem FitV.none_zero {w : World} {B : Nat} {q : Option Addr} {n c : Nat} {vs : List Value} {Ls : List (List (List Int))} {r : Option Nat} (h : FitV w B (.slice q n c) vs Ls r) : q = none → vs.length = 0 := by
  intro hq
  rcases h.out.2 with ⟨hv, h0⟩ | ⟨b, cap, cur, hv, -⟩
  · exact h0
  · cases hv; cases hq
theorem snoc_all {wr w2 : World} {g2 cap2 ck : Nat} {p qk : Option Addr} {first : List (List Int)} {sk : List Int} {vs1 : List Value}
    (ho : w2.ownsRow wr.heap.size 23 1 (.slice (some ⟨g2, 0, none⟩) (first.length + 1) cap2) (first.length + 1) (vs1 ++ [.slice qk sk.length ck])) (hvl : vs1.length = first.length * 1) (hE : Ext wr w2)
    (hv : ∀ r, ListsNe r wr p first → ∀ i (hi : i < first.length), ∃ q c, vs1[i]? = some (.slice q first[i].length c) ∧ IntsNe r wr q first[i]) :
    ∀ r : Option Nat, (∀ b, r = some b → b < wr.heap.size) → ListsNe r wr p first → IntsNe r wr qk sk → ListsNe r w2 (some ⟨g2, 0, none⟩) (first ++ [sk]) := by
  intro r hr h1 h2
  obtain ⟨p', c', he, hn⟩ := snoc_ne (r := r) ho (by omega) hE (fun b hb he => by
    have := (ho.lt b hb).1
    have := hr b he.symm
    omega) (hv r h1) h2
  injection he with e1 e2 e3
  subst e1
  exact hn
end Go.Proofs.Ytpgjkmjejpfkmaa
namespace Go.Proofs.Ytpgjkmjejpfkmaa
open Go.RowKit

def FitPost (S : Swap) (d : Nat) (p : Option Addr) (first : List (List Int)) (w : World) (e : Ending) (w' : World) : Prop :=
  ∃ v vs, e = .returned v ∧ Ext w w' ∧ ∀ r : Option Nat, (∀ b, r = some b → b < w.heap.size) → ListsNe r w p first → FitV w' w.heap.size v vs (fitL S d first) r

set_option maxRecDepth 100000 in
set_option maxHeartbeats 3200000 in
theorem fitting07 (S : Swap) (hS : ValidE S) :
    ∀ (d : Nat) (first : List (List Int)), first.length + d = S.boxes.length → (∀ i (h : i < first.length), first[i].length ≤ 3) → ∀ (v : Value) (p : Option Addr) (c : Nat) (w : World), SwapV w v S → ListsAt w p first →
    Calls Try.prog 62 #[v, .slice p first.length c] w (FitPost S d p first w) := by
  intro d
  induction d with
  | zero =>
    intro first hd hr v p c w hv hp
    have HV := Lib.hid hv
    have HP := Lib.hid hp
    have HR := Lib.hid hr
    have HD := Lib.hid hd
    obtain ⟨p0, c0, p1, c1, p2, c2, p3, c3, rfl, h0, h1, h2, h3⟩ := hv
    clear h0 h1 h2 h3 hr hp
    go_enter Try.func62, Try.ntmps62
    go_upto_region 1 with (fail)
    have hn := heap_new w (.cells #[.slice p0 S.boxes.length c0, .slice p1 S.stock.length c1, .slice p2 S.earn.length c2, .slice p3 S.keeps.length c3, .int .i64 S.changes] 26)
    obtain ⟨W, hW⟩ : ∃ W, W = w.alloc (.cells #[.slice p0 S.boxes.length c0, .slice p1 S.stock.length c1, .slice p2 S.earn.length c2, .slice p3 S.keeps.length c3, .int .i64 S.changes] 26) := ⟨_, rfl⟩
    have hE : Ext w W := by rw [hW]; exact Ext.alloc (Ext.refl w) _
    rw [← hW] at hn ⊢
    have q0 := ExtW.cell (v := .slice p0 S.boxes.length c0) (cell_of_heap hn 0)
    have q1 := ExtW.cell (v := .slice p1 S.stock.length c1) (cell_of_heap hn 1)
    have q2 := ExtW.cell (v := .slice p2 S.earn.length c2) (cell_of_heap hn 2)
    have q3 := ExtW.cell (v := .slice p3 S.keeps.length c3) (cell_of_heap hn 3)
    have q4 := ExtW.cell (v := .int .i64 S.changes) (cell_of_heap hn 4)
    have HC0 := fun x : ExtW W => (DoesFit07e _ S p first c x.w (SwapV.mono _ _ _ _ (hE.trans x.h) HV.out) hS (HP.out.ext (hE.trans x.h)) (by have := HD.out; omega) (fun i h => by have := HR.out i h; omega))
    obtain ⟨x0, hx0⟩ := ExtW.of (Ext.refl W)
    clear hW hn hS
    conv => arg 5; rw [hx0]
    clear hx0
    have heq : ((first.length : Int) == (S.boxes.length : Int)) = true := by rw [beq_iff_eq]; omega
    clear hd
    by_cases hfit : FitP S first
    · rw [bP_t hfit] at HC0
      have HC := Lib.hid HC0
      have HFIT := Lib.hid hfit
      clear HC0 hfit
      go_wp2_with fail
      refine (HC.out x0).mono ?_
      rintro e w2 ⟨rfl, hE2⟩
      go_wp2
      go_ret
      have hE3 := (hE.trans x0.h).trans hE2
      have hfl : fitL S 0 first = [first] := by unfold fitL; rw [if_pos (bP_t HFIT.out)]
      refine ⟨_, [.slice p first.length c], rfl, hE3.alloc _, fun r hr hne => ?_⟩
      rw [hfl]
      have hsz := hE3.size
      refine ⟨rfl, ownsRow_base (own_one w2 _ _) hsz, fun i hi => ?_, fun i hi => ?_⟩
      · obtain rfl : i = 0 := by simp at hi; exact hi
        exact ⟨p, c, rfl, ((HP.out.ext hE3).ne (some w2.heap.size) (fun b hb => by cases hb; exact Nat.le_refl _)).ext (Ext.alloc (Ext.refl w2) _)⟩
      · obtain rfl : i = 0 := by simp at hi; exact hi
        exact ⟨p, c, rfl, hne.ext (hE3.alloc _)⟩
    · rw [bP_f hfit] at HC0
      have HC := Lib.hid HC0
      have HFIT := Lib.hid hfit
      clear HC0 hfit
      go_wp2_with fail
      refine (HC.out x0).mono ?_
      rintro e w2 ⟨rfl, hE2⟩
      go_wp2
      go_ret
      have hfl : fitL S 0 first = [] := by unfold fitL; rw [if_neg (by rw [bP_iff]; exact HFIT.out)]
      refine ⟨_, [], rfl, (hE.trans x0.h).trans hE2, fun r hr hne => ?_⟩
      rw [hfl]
      exact FitV.nil _ _ _
  | succ d ih =>
    intro first hd hr v p c w hv hp
    have HV := Lib.hid hv
    have HP := Lib.hid hp
    have HR := Lib.hid hr
    have HS := Lib.hid hS
    have HT := Lib.hid hS.stock
    have hb3 := hS.boxes
    obtain ⟨p0, c0, p1, c1, p2, c2, p3, c3, rfl, h0, h1, h2, h3⟩ := hv
    have hlt : first.length < S.boxes.length := by omega
    obtain ⟨b, o, q', c', rfl, hc, hq'⟩ := h0.at first.length hlt
    have hbx := (hS.box first.length hlt).1
    have hgd := getD_of_lt S.boxes [] first.length hlt
    obtain ⟨bx, hbxe⟩ : ∃ bx, bx = S.boxes[first.length] := ⟨_, rfl⟩
    rw [← hbxe] at hc hq' hbx hgd
    have HGD := Lib.hid hgd
    have hcl : (choL S.stock.length bx.length 0).length ≤ 216 := Nat.le_trans (choL_len _ hS.stock _ _) (Nat.pow_le_pow_right (n := 6) (by decide) hbx)
    have HCR := Lib.hid (fun l (h : l ∈ choL S.stock.length bx.length 0) => choL_row _ _ _ l h)
    have HCH := Lib.hid (fun x : World => (choices07 S.stock.length hS.stock bx.length hbx 0 (Nat.zero_le _) x : Calls Try.prog 91 #[.int .i64 S.stock.length, .int .i64 0, .int .i64 bx.length] x _))
    have HIH := Lib.hid (fun (l : List Int) (hl : l.length = bx.length) v p c w' (h1 : SwapV w' v S) (h2 : ListsAt w' p (first ++ [l])) => ih (first ++ [l]) (by rw [List.length_append, List.length_singleton]; omega) (fun i h => by
      rw [List.length_append, List.length_singleton] at h
      by_cases e : i < first.length
      · rw [List.getElem_append_left e]; exact hr i e
      · rw [List.getElem_append_right (by omega)]; simp; omega) v p c w' h1 h2)
    have HFL := Lib.hid (fun (L : List (List Int)) => fitL_len S hS.stock (fun i h => (hS.box i h).1) d L)
    have HFT := Lib.hid (fun (ls : List (List Int)) k => fitTo_len S hS.stock (fun i h => (hS.box i h).1) d first ls k)
    have hpow : 216 ^ d ≤ 46656 := Nat.le_trans (Nat.pow_le_pow_right (n := 216) (j := 2) (by decide) (by omega)) (by decide)
    have heq : ((first.length : Int) == (S.boxes.length : Int)) = false := by rw [beq_eq_false_iff_ne]; omega
    have HPOW := Lib.hid hpow
    have HD := Lib.hid hd
    obtain ⟨i1, hi1, hz1, hy1, hb1⟩ := info_parts info_b
    obtain ⟨i2, hi2, hz2, hy2, hb2⟩ := info_parts info_plan
    clear h0 h1 h2 h3 hr hp ih hgd hbxe hpow hS hd
    go_enter Try.func62, Try.ntmps62
    go_upto_region 1 with (fail)
    have hn := heap_new w (.cells #[.slice (some ⟨b, o, none⟩) S.boxes.length c0, .slice p1 S.stock.length c1, .slice p2 S.earn.length c2, .slice p3 S.keeps.length c3, .int .i64 S.changes] 26)
    obtain ⟨W, hW⟩ : ∃ W, W = w.alloc (.cells #[.slice (some ⟨b, o, none⟩) S.boxes.length c0, .slice p1 S.stock.length c1, .slice p2 S.earn.length c2, .slice p3 S.keeps.length c3, .int .i64 S.changes] 26) := ⟨_, rfl⟩
    have hE : Ext w W := by rw [hW]; exact Ext.alloc (Ext.refl w) _
    have hWs : W.heap.size = w.heap.size + 1 := by rw [hW]; simp
    rw [← hW] at hn ⊢
    have q0 := ExtW.cell (v := .slice (some ⟨b, o, none⟩) S.boxes.length c0) (cell_of_heap hn 0)
    have q1 := ExtW.cell (v := .slice p1 S.stock.length c1) (cell_of_heap hn 1)
    have q2 := ExtW.cell (v := .slice p2 S.earn.length c2) (cell_of_heap hn 2)
    have q3 := ExtW.cell (v := .slice p3 S.keeps.length c3) (cell_of_heap hn 3)
    have q4 := ExtW.cell (v := .int .i64 S.changes) (cell_of_heap hn 4)
    have qb := ExtW.cell (hE.cell hc)
    have HQ := Lib.hid (fun (z : World) (hz : Ext W z) => (⟨q0 ⟨z, hz⟩, q1 ⟨z, hz⟩, q2 ⟨z, hz⟩, q3 ⟨z, hz⟩, q4 ⟨z, hz⟩, qb ⟨z, hz⟩⟩ :
        z.cell? ⟨w.heap.size, 0, none⟩ = some (.slice (some ⟨b, o, none⟩) S.boxes.length c0) ∧ z.cell? ⟨w.heap.size, 1, none⟩ = some (.slice p1 S.stock.length c1) ∧ z.cell? ⟨w.heap.size, 2, none⟩ = some (.slice p2 S.earn.length c2) ∧ z.cell? ⟨w.heap.size, 3, none⟩ = some (.slice p3 S.keeps.length c3) ∧ z.cell? ⟨w.heap.size, 4, none⟩ = some (.int .i64 S.changes) ∧ z.cell? ⟨b, o + first.length, none⟩ = some (.slice q' bx.length c')))
    obtain ⟨x0, hx0⟩ := ExtW.of (Ext.refl W)
    have HEW := Lib.hid hE
    have HWS := Lib.hid hWs
    have HBQ := Lib.hid hq'
    clear hW hn hc hE hWs hq'
    conv => arg 5; rw [hx0]
    clear hx0
    go_upto_region 7 with (fail)
    go_region_held3 (fun z => z.cell? ⟨w.heap.size, 0, none⟩ = some (.slice (some ⟨b, o, none⟩) S.boxes.length c0) ∧ z.cell? ⟨w.heap.size, 1, none⟩ = some (.slice p1 S.stock.length c1) ∧ z.cell? ⟨w.heap.size, 2, none⟩ = some (.slice p2 S.earn.length c2) ∧ z.cell? ⟨w.heap.size, 3, none⟩ = some (.slice p3 S.keeps.length c3) ∧ z.cell? ⟨w.heap.size, 4, none⟩ = some (.int .i64 S.changes) ∧ z.cell? ⟨b, o + first.length, none⟩ = some (.slice q' bx.length c'))
      ((refine HQ.out _ ?_; repeat (first | with_reducible exact x0.h | with_reducible refine Ext.drew ?_ | with_reducible refine Ext.trans ?_ (StpK.out (by assumption)))))
      ((go_at_call 91; refine (HCH.out _).mono ?_; rintro e w1 ⟨lv, ls, rfl, hL, hE1⟩; have HL1 := Lib.hid hL; have HE1 := Lib.hid hE1; have hS7 := StpK.mk hE1; clear hL hE1))
    clear hS7
    all_goals
      obtain ⟨chs, hch⟩ : ∃ chs, chs = choL S.stock.length bx.length 0 := ⟨_, rfl⟩
      have hle1 := HE1.out
      have hsz1 : W.heap.size ≤ w1.heap.size := (Ext.trans x0.h (Ext.trans (Ext.drew (Ext.refl _)) HE1.out)).size
      have hEW1 : Ext W w1 := Ext.trans x0.h (Ext.trans (Ext.drew (Ext.refl _)) HE1.out)
      have hL0 := HL1.out.base (B' := W.heap.size) (by have := x0.h.size; simp only [size_drewK]; omega)
      rw [← hch] at hL0 hcl HCR
      obtain ⟨qL, cL, rfl, hqn⟩ := hL0.ne none (fun b hb => by cases hb)
      have hqr : ∀ r : Option Nat, (∀ b, r = some b → b < W.heap.size) → ListsNe r w1 qL chs := by
        intro r hr
        obtain ⟨p', c', he, hn⟩ := hL0.ne r (fun b hb => Or.inl (hr b hb))
        cases he
        exact hn
      have HCHS := Lib.hid hch
      have HQN := Lib.hid hqn
      have HQR := Lib.hid hqr
      have HEW1 := Lib.hid hEW1
      clear hch hL0 hqn hqr hle1 hsz1 hEW1 HL1 HE1
      go_wp2
      go_loopw [6, 8] (fun u i wr => ∃ k : Nat, k ≤ chs.length ∧ i = .int .i64 k ∧ Ext W wr ∧ ListsNe u.ownBlock wr qL chs ∧ (∀ r : Option Nat, (∀ b, r = some b → b < W.heap.size) → ListsNe r wr qL chs) ∧
        ∃ vs, ∀ r : Option Nat, (∀ b, r = some b → b < w.heap.size) → ListsNe r w p first → FitV wr W.heap.size u vs (fitTo S d first chs k) r) (fun _ i _ => chs.length - (intOf i).toNat)
      case atStart => exact ⟨0, by omega, rfl, HEW1.out, HQN.out, HQR.out, [], fun r _ _ => FitV.nil _ _ _⟩
      case round =>
        clear HQN HQR HEW1
        obtain ⟨k, hk, rfl, hE, hLU, hLR, vs, hF⟩ := hrel
        have HE := Lib.hid hE
        have HLU := Lib.hid hLU
        have HLR := Lib.hid hLR
        have HF := Lib.hid hF
        clear hE hLU hLR hF
        by_cases hlt2 : k < chs.length
        · obtain ⟨bq, oq, qk, ck, rfl, hbqn, hck, hik⟩ := HLU.out k hlt2
          have HBQN := Lib.hid hbqn
          have hikr : ∀ r : Option Nat, (∀ b, r = some b → b < W.heap.size) → IntsNe r wr qk chs[k] := by
            intro r hr
            obtain ⟨b', o', q'', c'', he, -, hc', hi'⟩ := HLR.out r hr k hlt2
            cases he
            rw [hck] at hc'
            cases hc'
            exact hi'
          have hlk := HCR.out chs[k] (List.getElem_mem hlt2)
          have hsucc := fitTo_succ (S := S) (d := d) (first := first) hlt2
          rw [HGD.out] at hsucc
          obtain ⟨sk, hsk⟩ : ∃ sk, sk = chs[k] := ⟨_, rfl⟩
          rw [← hsk] at hck hik hikr hlk hsucc
          have HSUCC := Lib.hid hsucc
          have HIKR := Lib.hid hikr
          have HIK := Lib.hid hik
          have r0 := ExtW.cell ((HQ.out wr HE.out).1)
          have r1 := ExtW.cell ((HQ.out wr HE.out).2.1)
          have r2 := ExtW.cell ((HQ.out wr HE.out).2.2.1)
          have r3 := ExtW.cell ((HQ.out wr HE.out).2.2.2.1)
          have r4 := ExtW.cell ((HQ.out wr HE.out).2.2.2.2.1)
          have r5 := ExtW.cell ((HQ.out wr HE.out).2.2.2.2.2)
          have r6 := ExtW.cell hck
          have HS0 := Lib.hid (fun (z : World) (hz : Ext wr z) => (⟨r0 ⟨z, hz⟩, r1 ⟨z, hz⟩, r2 ⟨z, hz⟩, r3 ⟨z, hz⟩, r4 ⟨z, hz⟩, r6 ⟨z, hz⟩⟩ :
            z.cell? ⟨w.heap.size, 0, none⟩ = some (.slice (some ⟨b, o, none⟩) S.boxes.length c0) ∧ z.cell? ⟨w.heap.size, 1, none⟩ = some (.slice p1 S.stock.length c1) ∧ z.cell? ⟨w.heap.size, 2, none⟩ = some (.slice p2 S.earn.length c2) ∧ z.cell? ⟨w.heap.size, 3, none⟩ = some (.slice p3 S.keeps.length c3) ∧ z.cell? ⟨w.heap.size, 4, none⟩ = some (.int .i64 S.changes) ∧ z.cell? ⟨bq, oq + k, none⟩ = some (.slice qk sk.length ck)))
          have hsl : sk.length ≤ 3 := by omega
          have HCC := Lib.hid (fun x : ExtW wr => ExtW.call (RetQ.e (ChangesOf07 q' qk bx sk c' ck x.w (by omega) (by omega) (HBQ.out.ext ((HEW.out.trans HE.out).trans x.h)) (hik.ints.ext x.h))))
          have HIH2 := Lib.hid (HIH.out sk hlk)
          obtain ⟨xr, hxr⟩ := ExtW.of (Ext.refl wr)
          obtain ⟨z, hz⟩ : ∃ z, z = chOf bx sk := ⟨_, rfl⟩
          rw [← hz] at HCC hsucc
          have HZ := Lib.hid hz
          have hsz := HE.out.size
          clear hck hikr hik hlk hsk hsucc hz HIH hbqn
          conv => arg 5; rw [hxr]
          clear hxr
          by_cases hle : (z : Int) ≤ S.changes
          · have hd : decide ((z : Int) ≤ S.changes) = true := by simpa using hle
            have HLE := Lib.hid hle
            clear hle
            go_upto_region 11 with (fail)
            refine wp_region_extW (by kernel_rfl) (by kernel_rfl) ?_
            repeat (go_big_quiet_step ((go_at_call 83; exact HCC.out _)))
            refine wpQuiet_nil ?_
            rintro _ ⟨x2, rfl⟩
            have HX := Lib.hid x2.h
            have hxs := x2.h.size
            have HPW := Lib.hid (HP.out.ext (HEW.out.trans HE.out))
            have hF0 := HF.out none (fun b hb => by cases hb) (HP.out.ne none (fun b hb => by cases hb))
            have HO := Lib.hid hF0.out
            have hvl : vs.length ≤ 216 * 46656 := by rw [hF0.len]; exact Nat.le_trans (HFT.out chs k) (Nat.mul_le_mul (by omega) HPOW.out)
            have hf1000 : first.length ≤ 1000 := by omega
            have hm1 : first.length + 1 ≤ maxLen := by unfold maxLen; omega
            have hm2 : (first.length + 1) * 24 ≤ 140737488355328 := by omega
            have HIH3 := Lib.hid (fun v p c w' (h1 : SwapV w' v S) (h2 : ListsAt w' p (first ++ [sk])) => (by have := HIH2.out v p c w' h1 h2; rwa [List.length_append, List.length_singleton] at this : Calls Try.prog 62 #[v, .slice p (first.length + 1) c] w' (FitPost S d p (first ++ [sk]) w')))
            have hww : w.heap.size ≤ W.heap.size := by have := HWS.out; omega
            have HCV := Lib.hid (fun (r : Option Nat) (hr : ∀ b, r = some b → b < w.heap.size) (hne : ListsNe r w p first) => (⟨fun b hb => Nat.lt_of_lt_of_le (hr b hb) (Nat.le_trans hww hsz), hne.ext (HEW.out.trans HE.out), HIKR.out r (fun b hb => Nat.lt_of_lt_of_le (hr b hb) hww)⟩ : (∀ b, r = some b → b < wr.heap.size) ∧ ListsNe r wr p first ∧ IntsNe r wr qk sk))
            have HNN := Lib.hid (HCV.out none (fun b hb => by cases hb) (HP.out.ne none (fun b hb => by cases hb)))
            have HU := Lib.hid (⟨fun b hb => (HO.out.lt b hb).2, (HP.out.ne u6.ownBlock (fun b hb => by have := (HO.out.lt b hb).1; omega)).ext (HEW.out.trans HE.out), HIK.out⟩ : (∀ b, u6.ownBlock = some b → b < wr.heap.size) ∧ ListsNe u6.ownBlock wr p first ∧ IntsNe u6.ownBlock wr qk sk)
            clear hF0 hww r0 r1 r2 r3 r4 r5 r6 q0 q1 q2 q3 q4 qb HCC HCR HT HR HS HCH HIH2 HBQ HCHS HGD HFT
            go_upto_region 12 with (fail)
            go_region_held3 (fun z => z.cell? ⟨w.heap.size, 0, none⟩ = some (.slice (some ⟨b, o, none⟩) S.boxes.length c0) ∧ z.cell? ⟨w.heap.size, 1, none⟩ = some (.slice p1 S.stock.length c1) ∧ z.cell? ⟨w.heap.size, 2, none⟩ = some (.slice p2 S.earn.length c2) ∧ z.cell? ⟨w.heap.size, 3, none⟩ = some (.slice p3 S.keeps.length c3) ∧ z.cell? ⟨w.heap.size, 4, none⟩ = some (.int .i64 S.changes) ∧ z.cell? ⟨bq, oq + k, none⟩ = some (.slice qk sk.length ck))
              (first | exact HS4.out | (refine HS0.out _ ?_; repeat (first | with_reducible exact HX.out | with_reducible exact StpK.out (by assumption) | with_reducible refine Ext.alloc ?_ _ | with_reducible refine Ext.drew ?_ | with_reducible refine Ext.trans ?_ (StpK.out (by assumption)))))
              (first
                | (refine guard_op (.call { callee := .builtin .append, args := #[.tmp 52, .tmp 53], argTypes := #[22, 22] }) ?_ ?_; exact rfl; refine step_rows_of (w0 := wr) rfl (.tmp 52) (.tmp 53) rfl _ rfl p first c rfl (by first | with_reducible exact own_drewK (own_madeK (by first | with_reducible rfl | (simp only [size_alloc]; done) | (simp only [size_alloc]; omega) | omega)) | with_reducible exact own_madeK (by first | with_reducible rfl | (simp only [size_alloc]; done) | (simp only [size_alloc]; omega) | omega) | with_reducible exact World.ownsRow.alloc (own_drewK (own_madeK (by first | with_reducible rfl | (simp only [size_alloc]; done) | (simp only [size_alloc]; omega) | omega))) _ | with_reducible exact own_drewK (World.ownsRow.alloc (own_drewK (own_madeK (by first | with_reducible rfl | (simp only [size_alloc]; done) | (simp only [size_alloc]; omega) | omega))) _) | with_reducible exact World.ownsRow.alloc (own_madeK (by first | with_reducible rfl | (simp only [size_alloc]; done) | (simp only [size_alloc]; omega) | omega)) _ | with_reducible exact own_drewK (World.ownsRow.alloc (own_madeK (by first | with_reducible rfl | (simp only [size_alloc]; done) | (simp only [size_alloc]; omega) | omega)) _)) HPW.out (by repeat (first | with_reducible exact HX.out | with_reducible exact StpK.out (by assumption) | with_reducible refine Ext.alloc ?_ _ | with_reducible refine Ext.drew ?_ | with_reducible refine Ext.trans ?_ (StpK.out (by assumption)))) hf1000 ?_; intro g1 cn1 w1 vs1 ho1 hv1 hE1 hat1; have hS1 := StpK.mk hE1; have HO1 := Lib.hid ho1; have HV1 := Lib.hid hv1; have hg1 : wr.heap.size ≤ g1 := (by rcases hat1 with e | e <;> rw [e] <;> (try simp only [size_alloc]) <;> (try simp only [size_drewK]) <;> (try simp only [size_alloc]) <;> omega); clear ho1 hv1 hE1 hat1)
                | (refine guard_op (.call { callee := .builtin .append, args := #[.tmp 54, .tmp 59], argTypes := #[22, 22] }) ?_ ?_; exact rfl; refine step_append_lies _ rfl (.tmp 54) (.tmp 59) 22 rfl wr.heap.size 23 i1 (.slice none 0 0) 1 24 Try.underlying22 hi1 hz1 hy1 hb1 rfl (by decide) _ first.length _ rfl (ownsRow_base (ownsRow_ext HO1.out (by repeat (first | with_reducible exact Ext.refl _ | with_reducible refine Ext.alloc ?_ _ | with_reducible refine Ext.drew ?_ | with_reducible refine Ext.trans ?_ (StpK.out (by assumption))))) hg1) ⟨_, 0, none⟩ 1 1 [.slice qk sk.length ck] rfl rfl ?_ ?_ (by decide) ?_ ?_ ?_ _ rfl ?_; exact hnewsE (by repeat (first | with_reducible exact Ext.refl _ | with_reducible refine Ext.alloc ?_ _ | with_reducible refine Ext.drew ?_ | with_reducible refine Ext.trans ?_ (StpK.out (by assumption)))) (by first | with_reducible rfl | (simp only [size_alloc]; done) | (simp only [size_alloc]; omega) | omega); exact one_slice _ _ _; exact hm1; exact hm2; exact Ext.size (by repeat (first | with_reducible exact HX.out | with_reducible exact StpK.out (by assumption) | with_reducible refine Ext.alloc ?_ _ | with_reducible refine Ext.drew ?_ | with_reducible refine Ext.trans ?_ (StpK.out (by assumption)))); intro g2 cap2 w2 hown2 hgr2 hat2 hlt2; have hS2 : StpK wr w2 := grown_step (by repeat (first | with_reducible exact HX.out | with_reducible exact StpK.out (by assumption) | with_reducible refine Ext.alloc ?_ _ | with_reducible refine Ext.drew ?_ | with_reducible refine Ext.trans ?_ (StpK.out (by assumption)))) hgr2 (fun j hj => by cases hj; exact hg1); have HN2 := Lib.hid (snoc_all hown2 HO1.out.1 hS2.out HV1.out); clear hown2 hgr2 hat2 hlt2 hS1 HO1 HV1 hg1)
                | (go_at_call 62; refine (HIH3.out _ _ _ _ (SwapV.mono _ _ _ _ ((HEW.out.trans HE.out).trans (by repeat (first | with_reducible exact HX.out | with_reducible exact StpK.out (by assumption) | with_reducible refine Ext.alloc ?_ _ | with_reducible refine Ext.drew ?_ | with_reducible refine Ext.trans ?_ (StpK.out (by assumption))))) HV.out) ((HN2.out none HNN.out.1 HNN.out.2.1 HNN.out.2.2).lists.ext (by repeat (first | with_reducible exact Ext.refl _ | with_reducible refine Ext.alloc ?_ _ | with_reducible refine Ext.drew ?_ | with_reducible refine Ext.trans ?_ (StpK.out (by assumption)))))).mono ?_; rintro e w3 ⟨v3, vs3, rfl, hE3, hF3⟩; have hG3 := (fun r h1 h2 h3 => (hF3 r (fun b hb => Nat.lt_of_lt_of_le (h1 b hb) (Ext.size (by repeat (first | with_reducible exact HX.out | with_reducible exact StpK.out (by assumption) | with_reducible refine Ext.alloc ?_ _ | with_reducible refine Ext.drew ?_ | with_reducible refine Ext.trans ?_ (StpK.out (by assumption)))))) ((HN2.out r h1 h2 h3).ext (by repeat (first | with_reducible exact Ext.refl _ | with_reducible refine Ext.alloc ?_ _ | with_reducible refine Ext.drew ?_ | with_reducible refine Ext.trans ?_ (StpK.out (by assumption)))))).base (Ext.size (by repeat (first | with_reducible exact HX.out | with_reducible exact StpK.out (by assumption) | with_reducible refine Ext.alloc ?_ _ | with_reducible refine Ext.drew ?_ | with_reducible refine Ext.trans ?_ (StpK.out (by assumption))))) : ∀ r : Option Nat, (∀ b, r = some b → b < wr.heap.size) → ListsNe r wr p first → IntsNe r wr qk sk → FitV w3 wr.heap.size v3 vs3 (fitL S d (first ++ [sk])) r); obtain ⟨q3, cap3, rfl⟩ := (hG3 none HNN.out.1 HNN.out.2.1 HNN.out.2.2).slice; have HG3 := Lib.hid hG3; have HG0 := Lib.hid (hG3 none HNN.out.1 HNN.out.2.1 HNN.out.2.2); have hl3 : vs3.length ≤ 46656 := (by rw [HG0.out.len]; exact Nat.le_trans (HFL.out _) HPOW.out); have hS3 := StpK.mk hE3; clear hE3 hF3 hG3)
                | (refine guard_op (.call { callee := .builtin .append, args := #[.tmp 50, .tmp 61], argTypes := #[88, 88] }) ?_ ?_; exact rfl; refine step_append_any rfl (.tmp 50) (.tmp 61) 88 rfl W.heap.size 22 i2 (.slice none 0 0) 1 24 Try.underlying88 hi2 hz2 hy2 hb2 rfl (by decide) _ vs.length vs rfl (ownsRow_ext HO.out (by repeat (first | with_reducible exact HX.out | with_reducible exact StpK.out (by assumption) | with_reducible refine Ext.alloc ?_ _ | with_reducible refine Ext.drew ?_ | with_reducible refine Ext.trans ?_ (StpK.out (by assumption))))) q3 vs3.length cap3 vs3 rfl (by simp) (own_news (ownsRow_ext HG0.out.out (by repeat (first | with_reducible exact Ext.refl _ | with_reducible refine Ext.alloc ?_ _ | with_reducible refine Ext.drew ?_ | with_reducible refine Ext.trans ?_ (StpK.out (by assumption)))))) HG0.out.none_zero (own_all_one HG0.out) (by unfold maxLen; omega) (by omega) (Nat.le_trans hsz (Ext.size (by repeat (first | with_reducible exact HX.out | with_reducible exact StpK.out (by assumption) | with_reducible refine Ext.alloc ?_ _ | with_reducible refine Ext.drew ?_ | with_reducible refine Ext.trans ?_ (StpK.out (by assumption)))))) ?_; intro v4 w4 hown4 hgr4 hat4; have hW4 : StpK W w4 := grown_step (HE.out.trans (by repeat (first | with_reducible exact HX.out | with_reducible exact StpK.out (by assumption) | with_reducible refine Ext.alloc ?_ _ | with_reducible refine Ext.drew ?_ | with_reducible refine Ext.trans ?_ (StpK.out (by assumption))))) hgr4 (fun j hj => (HO.out.lt j hj).1); have HS4 := Lib.hid (⟨(HQ.out w4 hW4.out).1, (HQ.out w4 hW4.out).2.1, (HQ.out w4 hW4.out).2.2.1, (HQ.out w4 hW4.out).2.2.2.1, (HQ.out w4 hW4.out).2.2.2.2.1, hgr4.cell ((HS0.out _ (by repeat (first | with_reducible exact HX.out | with_reducible exact StpK.out (by assumption) | with_reducible refine Ext.alloc ?_ _ | with_reducible refine Ext.drew ?_ | with_reducible refine Ext.trans ?_ (StpK.out (by assumption))))).2.2.2.2.2) HBQN.out⟩ : w4.cell? ⟨w.heap.size, 0, none⟩ = some (.slice (some ⟨b, o, none⟩) S.boxes.length c0) ∧ w4.cell? ⟨w.heap.size, 1, none⟩ = some (.slice p1 S.stock.length c1) ∧ w4.cell? ⟨w.heap.size, 2, none⟩ = some (.slice p2 S.earn.length c2) ∧ w4.cell? ⟨w.heap.size, 3, none⟩ = some (.slice p3 S.keeps.length c3) ∧ w4.cell? ⟨w.heap.size, 4, none⟩ = some (.int .i64 S.changes) ∧ w4.cell? ⟨bq, oq + k, none⟩ = some (.slice qk sk.length ck)); have HF4 := Lib.hid (fun r hr hne => fit_grow (HF.out r hr hne) (by repeat (first | with_reducible exact HX.out | with_reducible exact StpK.out (by assumption) | with_reducible refine Ext.alloc ?_ _ | with_reducible refine Ext.drew ?_ | with_reducible refine Ext.trans ?_ (StpK.out (by assumption)))) ((HG3.out _ HU.out.1 HU.out.2.1 HU.out.2.2).ext (by repeat (first | with_reducible exact Ext.refl _ | with_reducible refine Ext.alloc ?_ _ | with_reducible refine Ext.drew ?_ | with_reducible refine Ext.trans ?_ (StpK.out (by assumption))))) ((HG3.out r (HCV.out r hr hne).1 (HCV.out r hr hne).2.1 (HCV.out r hr hne).2.2).ext (by repeat (first | with_reducible exact Ext.refl _ | with_reducible refine Ext.alloc ?_ _ | with_reducible refine Ext.drew ?_ | with_reducible refine Ext.trans ?_ (StpK.out (by assumption))))) hown4 hgr4 hat4); have HL4 := Lib.hid (lists_grow (m := vs3.length) HLU.out (by repeat (first | with_reducible exact HX.out | with_reducible exact StpK.out (by assumption) | with_reducible refine Ext.alloc ?_ _ | with_reducible refine Ext.drew ?_ | with_reducible refine Ext.trans ?_ (StpK.out (by assumption)))) hgr4 hat4); have HR4 := Lib.hid (fun r hr => (HLU.out.ext (by repeat (first | with_reducible exact HX.out | with_reducible exact StpK.out (by assumption) | with_reducible refine Ext.alloc ?_ _ | with_reducible refine Ext.drew ?_ | with_reducible refine Ext.trans ?_ (StpK.out (by assumption))))).keep2 ((HLR.out r hr).ext (by repeat (first | with_reducible exact HX.out | with_reducible exact StpK.out (by assumption) | with_reducible refine Ext.alloc ?_ _ | with_reducible refine Ext.drew ?_ | with_reducible refine Ext.trans ?_ (StpK.out (by assumption))))) hgr4); clear hown4 hgr4 hat4))
            all_goals
              go_wp2
              go_roundw
              case rel =>
                refine ⟨k + 1, by omega, by go_num, hW4.out, HL4.out, HR4.out, vs ++ vs3, fun r hr hne => ?_⟩
                rw [HSUCC.out, ← HZ.out, if_pos HLE.out]
                exact HF4.out r hr hne
              case measure => simp [intOf]; omega
          · have hd : decide ((z : Int) ≤ S.changes) = false := by simpa using hle
            have HLE := Lib.hid hle
            clear hle
            go_upto_region 11 with (fail)
            refine wp_region_extW (by kernel_rfl) (by kernel_rfl) ?_
            repeat (go_big_quiet_step ((go_at_call 83; exact HCC.out _)))
            refine wpQuiet_nil ?_
            rintro _ ⟨x2, rfl⟩
            go_wp2
            go_roundw
            case rel =>
              refine ⟨k + 1, by omega, by go_num, HE.out.trans x2.h, HLU.out.ext x2.h, fun r hr => (HLR.out r hr).ext x2.h, vs, fun r hr hne => ?_⟩
              rw [HSUCC.out, ← HZ.out, if_neg HLE.out, List.append_nil]
              exact (HF.out r hr hne).ext x2.h
            case measure => simp [intOf]; omega
        · obtain rfl : k = chs.length := by omega
          go_wp2
          go_ret
          refine ⟨_, vs, rfl, HEW.out.trans HE.out, fun r hr hne => ?_⟩
          have hF := HF.out r hr hne
          rw [HCHS.out, ← HGD.out, fitTo_all] at hF
          exact hF.base (by have := HWS.out; omega)
end Go.Proofs.Ytpgjkmjejpfkmaa
