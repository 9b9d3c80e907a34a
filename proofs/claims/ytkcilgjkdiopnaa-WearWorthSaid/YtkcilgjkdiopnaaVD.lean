/- When records and needles are replaced: plain definitions of the choices. The walks of has, many and late. The walks of cost, all and whole. A slice of rows, each in memory of its own, that grow one at a time; an append whose result lies where it can be said. The walk of choose. -/
import Derived.Test.YtkcilgjkdiopnaaVB
import Derived.Laws.MakeOwn
import Derived.Test.YtkcilgjkdiopnaaVC
import Derived.Deep.OwnRows
namespace Go.Proofs.Ytkcilgjkdiopnaa
open Go.RowKit

/-- how many bits a small set has -/
def popc (s : Nat) : Nat := ((List.range 6).filter s.testBit).length
theorem popc_le (s : Nat) : popc s ≤ 6 := Nat.le_trans (List.length_filter_le _ _) (by simp)

structure Ch where
  needles : Nat
  records : List Nat

/-- the age of the needle in a week that it begins with age a, when record i is to be played -/
def ageTo (X : Wr) (wk : Nat) (a : Int) : Nat → Int
  | 0 => a
  | i + 1 => ageTo X wk a i + playsW X wk i
def ageB (X : Wr) (N : Nat) : Nat → Int
  | 0 => X.age
  | k + 1 => ageTo X k (if N.testBit k then 0 else ageB X N k) X.recs.length
def begA (X : Wr) (N k : Nat) : Int := if N.testBit k then 0 else ageB X N k
/-- by how much record i is worn in week k, if needles are replaced in the weeks N -/
def grd (X : Wr) (N k i : Nat) : Int := grindW X (ageTo X k (begA X N k) i) (playsW X k i).toNat

/-- a record replaced as late as it can be -/
def lateTo (lim w0 : Int) (g : Nat → Int) : Nat → Option (Int × Nat)
  | 0 => some (w0, 0)
  | k + 1 => match lateTo lim w0 g k with
    | none => none
    | some (w, x) => if lim < g k then none else if lim < w + g k then some (g k, x ||| 2 ^ k) else some (w + g k, x)
def lateW (lim w0 : Int) (g : Nat → Int) (n : Nat) : Option Nat := (lateTo lim w0 g n).map (·.2)
def recsTo (X : Wr) (N long : Nat) : Nat → Option (List Nat)
  | 0 => some []
  | i + 1 => match recsTo X N long i, lateW (recW X i).limit (recW X i).worn (fun k => grd X N k i) long with
    | some l, some x => some (l ++ [x])
    | _, _ => none
def chooseW (X : Wr) (N long : Nat) : Option Ch := (recsTo X N long X.recs.length).map (Ch.mk N)
def choicesW (X : Wr) (long : Nat) : List Ch := (List.range (2 ^ long)).filterMap fun N => chooseW X N long
def costTo (X : Wr) (c : Ch) : Nat → Int
  | 0 => 0
  | i + 1 => costTo X c i + popc (c.records.getD i 0) * (recW X i).price
def allW (X : Wr) (c : Ch) (price : Int) : Int := costTo X c c.records.length + popc c.needles * price
def leastS (f : Ch → Int) (b : Option Ch) (c : Ch) : Option Ch := match b with
  | none => some c
  | some b => if f c < f b then some c else some b
def leastL (f : Ch → Int) (l : List Ch) : Option Ch := l.foldl (leastS f) none
theorem leastL_snoc (f : Ch → Int) (l : List Ch) (c : Ch) : leastL f (l ++ [c]) = leastS f (leastL f l) c := by simp [leastL]

/-! in memory -/
def MaskR (_ : World) (v : Value) (n : Nat) : Prop := v = .int .u64 n
theorem MaskR.mono : Mono MaskR := fun _ _ _ _ _ h => h
def MasksAt (w : World) (p : Option Addr) (l : List Nat) : Prop := SlAt MaskR w p l
theorem MasksAt.ext {w w' : World} {p : Option Addr} {l : List Nat} (h : MasksAt w p l) (hE : Ext w w') : MasksAt w' p l := SlAt.ext MaskR.mono h hE
theorem MasksAt.at {w : World} {p : Option Addr} {l : List Nat} (h : MasksAt w p l) (i : Nat) (hi : i < l.length) : ∃ b o, p = some ⟨b, o, none⟩ ∧ w.cell? ⟨b, o + i, none⟩ = some (.int .u64 l[i]) := by
  obtain ⟨b, o, v, hp, hc, rfl⟩ := h i hi
  exact ⟨b, o, hp, hc⟩
def ChV (w : World) (v : Value) (c : Ch) : Prop := ∃ p cap, v = .agg #[.int .u64 c.needles, .slice p c.records.length cap] ∧ MasksAt w p c.records
theorem ChV.mono : Mono ChV := by
  rintro w w' v c hE ⟨p, cap, rfl, h⟩
  exact ⟨p, cap, rfl, h.ext hE⟩
/-- choices in a slice, two cells each -/
def ChsAt (w : World) (p : Option Addr) (l : List Ch) : Prop :=
  ∀ i (h : i < l.length), ∃ b o q c, p = some ⟨b, o, none⟩ ∧ w.cell? ⟨b, o + i * 2, none⟩ = some (.int .u64 l[i].needles) ∧ w.cell? ⟨b, o + i * 2 + 1, none⟩ = some (.slice q l[i].records.length c) ∧ MasksAt w q l[i].records
theorem ChsAt.ext {w w' : World} {p : Option Addr} {l : List Ch} (h : ChsAt w p l) (hE : Ext w w') : ChsAt w' p l := by
  intro i hi
  obtain ⟨b, o, q, c, hp, h1, h2, h3⟩ := h i hi
  exact ⟨b, o, q, c, hp, hE.cell h1, hE.cell h2, h3.ext hE⟩

/-! bounds -/
theorem ageTo_bd {X : Wr} (hX : ValidW X) (wk : Nat) {a A : Int} (ha : 0 ≤ a ∧ a ≤ A) : ∀ i : Nat, 0 ≤ ageTo X wk a i ∧ ageTo X wk a i ≤ A + 99 * i
  | 0 => by simp only [ageTo]; omega
  | i + 1 => by
    have := ageTo_bd hX wk ha i
    have := playsW_bd hX wk i
    simp only [ageTo]
    omega
theorem ageB_bd {X : Wr} (hX : ValidW X) (N : Nat) : ∀ k : Nat, 0 ≤ ageB X N k ∧ ageB X N k ≤ 9999 + 396 * k
  | 0 => by have := hX.age; simp only [ageB]; omega
  | k + 1 => by
    have h1 := ageB_bd hX N k
    have h4 := hX.recs
    have : 0 ≤ (if N.testBit k then 0 else ageB X N k) ∧ (if N.testBit k then 0 else ageB X N k) ≤ 9999 + 396 * k := by split <;> omega
    have := ageTo_bd hX k this X.recs.length
    simp only [ageB]
    omega
theorem begA_bd {X : Wr} (hX : ValidW X) (N k : Nat) : 0 ≤ begA X N k ∧ begA X N k ≤ 9999 + 396 * k := by
  have := ageB_bd hX N k
  unfold begA
  split <;> omega
theorem grd_bd {X : Wr} (hX : ValidW X) (N k i : Nat) : 0 ≤ grd X N k i ∧ grd X N k i ≤ 9801 := by
  have h1 := (ageTo_bd hX k (begA_bd hX N k) i).1
  have h2 := playsW_bd hX k i
  have h3 := grindW_bd hX h1 (playsW X k i).toNat
  unfold grd
  omega
theorem lateTo_bd {lim w0 : Int} {g : Nat → Int} (h0 : 0 ≤ w0 ∧ w0 ≤ 99999) (hg : ∀ k, 0 ≤ g k ∧ g k ≤ 9801) : ∀ k w x, lateTo lim w0 g k = some (w, x) → 0 ≤ w ∧ w ≤ 99999 + 9801 * k ∧ x < 2 ^ k
  | 0, w, x, h => by
    simp only [lateTo, Option.some.injEq, Prod.mk.injEq] at h
    obtain ⟨rfl, rfl⟩ := h
    exact ⟨h0.1, by omega, by simp⟩
  | k + 1, w, x, h => by
    simp only [lateTo] at h
    cases hl : lateTo lim w0 g k with
    | none => simp [hl] at h
    | some p =>
      obtain ⟨w1, x1⟩ := p
      obtain ⟨b1, b2, b3⟩ := lateTo_bd h0 hg k w1 x1 hl
      have hgk := hg k
      simp only [hl] at h
      have hp : 2 ^ (k + 1) = 2 ^ k + 2 ^ k := by rw [Nat.pow_succ]; omega
      split at h
      · cases h
      · split at h
        · simp only [Option.some.injEq, Prod.mk.injEq] at h
          obtain ⟨rfl, rfl⟩ := h
          exact ⟨hgk.1, by omega, Nat.or_lt_two_pow (by omega) (by omega)⟩
        · simp only [Option.some.injEq, Prod.mk.injEq] at h
          obtain ⟨rfl, rfl⟩ := h
          exact ⟨by omega, by omega, by omega⟩
theorem recsTo_len {X : Wr} {N long : Nat} : ∀ i l, recsTo X N long i = some l → l.length = i
  | 0, l, h => by simp only [recsTo, Option.some.injEq] at h; subst h; rfl
  | i + 1, l, h => by
    simp only [recsTo] at h
    split at h
    · next l' x h1 h2 =>
      simp only [Option.some.injEq] at h
      subst h
      simp [recsTo_len i l' h1]
    · cases h
theorem recsTo_lt {X : Wr} (hX : ValidW X) {N long : Nat} : ∀ i l, recsTo X N long i = some l → ∀ m ∈ l, m < 2 ^ long
  | 0, l, h => by simp only [recsTo, Option.some.injEq] at h; subst h; intro m hm; simp at hm
  | i + 1, l, h => by
    simp only [recsTo] at h
    split at h
    · next l' x h1 h2 =>
      simp only [Option.some.injEq] at h
      subst h
      intro m hm
      rcases List.mem_append.1 hm with hm | hm
      · exact recsTo_lt hX i l' h1 m hm
      · rw [List.mem_singleton.1 hm]
        unfold lateW at h2
        cases hl : lateTo (recW X i).limit (recW X i).worn (fun k => grd X N k i) long with
        | none => simp [hl] at h2
        | some p =>
          simp only [hl, Option.map_some, Option.some.injEq] at h2
          rw [← h2]
          exact (lateTo_bd (rec_bd hX i).2.2 (fun k => grd_bd hX N k i) long p.1 p.2 hl).2.2
    · cases h
/-- a choice of a valid box -/
structure ChOK (X : Wr) (c : Ch) : Prop where
  needles : c.needles < 64
  len : c.records.length = X.recs.length
  recs : ∀ i (h : i < c.records.length), c.records[i] < 64
theorem chooseW_ok {X : Wr} (hX : ValidW X) {N long : Nat} (hl : long ≤ 6) (hN : N < 2 ^ long) {c : Ch} (h : chooseW X N long = some c) : ChOK X c ∧ c.needles = N := by
  have h64 : 2 ^ long ≤ 64 := Nat.pow_le_pow_right (n := 2) (by decide) hl
  unfold chooseW at h
  cases hr : recsTo X N long X.recs.length with
  | none => simp [hr] at h
  | some l =>
    simp only [hr, Option.map_some, Option.some.injEq] at h
    subst h
    exact ⟨⟨(by show N < 64; omega), recsTo_len _ _ hr, fun i hi => Nat.lt_of_lt_of_le (recsTo_lt hX _ _ hr _ (List.getElem_mem hi)) h64⟩, rfl⟩
theorem choices_ok {X : Wr} (hX : ValidW X) {long : Nat} (hl : long ≤ 6) {c : Ch} (h : c ∈ choicesW X long) : ChOK X c := by
  obtain ⟨N, hN, hc⟩ := List.mem_filterMap.1 h
  exact (chooseW_ok hX hl (List.mem_range.1 hN) hc).1
theorem costTo_bd {X : Wr} (hX : ValidW X) (c : Ch) : ∀ n : Nat, 0 ≤ costTo X c n ∧ costTo X c n ≤ 5994 * n
  | 0 => by simp [costTo]
  | n + 1 => by
    have h1 := costTo_bd hX c n
    have h2 := rec_bd hX n
    have h3 := popc_le (c.records.getD n 0)
    have h4 : (0 : Int) ≤ (popc (c.records.getD n 0) : Int) * (recW X n).price := Int.mul_nonneg (by omega) h2.1
    have h5 : (popc (c.records.getD n 0) : Int) * (recW X n).price ≤ 6 * 999 := Int.mul_le_mul (by omega) h2.2.1 h2.1 (by decide)
    simp only [costTo]
    omega
theorem allW_bd {X : Wr} (hX : ValidW X) {c : Ch} (hc : ChOK X c) {price : Int} (hp : 0 ≤ price ∧ price ≤ 999) : 0 ≤ allW X c price ∧ allW X c price ≤ 30000 := by
  have h1 := costTo_bd hX c c.records.length
  have h2 := hc.len
  have h3 := hX.recs
  have h4 := popc_le c.needles
  have h5 : (0 : Int) ≤ (popc c.needles : Int) * price := Int.mul_nonneg (by omega) hp.1
  have h6 : (popc c.needles : Int) * price ≤ 6 * 999 := Int.mul_le_mul (by omega) hp.2 hp.1 (by decide)
  unfold allW
  omega
end Go.Proofs.Ytkcilgjkdiopnaa
namespace Go.Proofs.Ytkcilgjkdiopnaa
open Go.RowKit

theorem has_spell (s t : Nat) (hs2 : s < 18446744073709551616) : (bits BinOp.and IntKind.u64 ((s : Int) / 2 ^ t) 1 == 1) = s.testBit t := by
  have h1 : ((s : Int) / 2 ^ t) = ((s / 2 ^ t : Nat) : Int) := by simp
  have h2 : s / 2 ^ t < 18446744073709551616 := Nat.lt_of_le_of_lt (Nat.div_le_self _ _) hs2
  rw [h1, show (1 : Int) = ((1 : Nat) : Int) from rfl, bits_and_u64_nat _ _ h2 (by decide), Nat.testBit_eq_decide_div_mod_eq, Nat.and_one_is_mod]
  generalize s / 2 ^ t % 2 = x
  by_cases hx : x = 1
  · simp [hx]
  · simp [hx]; omega
theorem wrap_pow : ∀ x : Nat, x < 7 → IntKind.u64.wrap ((2 : Int) ^ x) = ((2 ^ x : Nat) : Int) := by decide

set_option maxHeartbeats 400000 in
theorem has03 (s : Nat) (t : Nat) (w : World) (hs1 : s < 64) (ht2 : t < 64) :
    Calls Try.prog 77 #[.int .u64 s, .int .i64 t] w (RetQ (.bool (s.testBit t)) w) := by
  have hs2 : s < 18446744073709551616 := by omega
  go_enter Try.func77, Try.ntmps77
  go_wp2
  go_ret
  exact RetQ.fin (by repeat (first | exact Qt.refl _ | assumption | refine Qt.drewN ?_ _ | refine Qt.drew ?_)) (congrArg Value.bool (has_spell s t hs2))

set_option maxHeartbeats 1000000 in
set_option maxRecDepth 10000 in
theorem OnesCount64_03 (s : Nat) (w : World) (hs2 : s < 64) :
    Calls Try.prog 111 #[.int .u64 s] w (RetQ (.int .i64 (popc s)) w) := by
  go_enter Try.func111, Try.ntmps111
  go_wp2
  go_ret
  refine RetQ.fin (by repeat (first | exact Qt.refl _ | assumption | refine Qt.drewN ?_ _ | refine Qt.drew ?_)) (congrArg (Value.int .i64) ?_)
  revert s
  decide +kernel

set_option maxHeartbeats 400000 in
theorem OnesCount_03 (s : Nat) (w : World) (hs2 : s < 64) :
    Calls Try.prog 98 #[.int .u64 s] w (RetQ (.int .i64 (popc s)) w) := by
  go_enter Try.func98, Try.ntmps98
  go_wp2_with (go_at_call 111; refine (OnesCount64_03 s _ hs2).mono ?_; rintro e w' ⟨rfl, m, rfl⟩)
  go_ret
  exact RetQ.fin (by repeat (first | exact Qt.refl _ | assumption | refine Qt.drewN ?_ _ | refine Qt.drew ?_)) rfl

set_option maxHeartbeats 400000 in
theorem many03 (s : Nat) (w : World) (hs2 : s < 64) :
    Calls Try.prog 74 #[.int .u64 s] w (RetQ (.int .i64 (popc s)) w) := by
  go_enter Try.func74, Try.ntmps74
  go_wp2_with (go_at_call 98; refine (OnesCount_03 s _ hs2).mono ?_; rintro e w' ⟨rfl, m, rfl⟩)
  go_ret
  exact RetQ.fin (by repeat (first | exact Qt.refl _ | assumption | refine Qt.drewN ?_ _ | refine Qt.drew ?_)) rfl

/-- what late returns -/
def lateV (r : Rec) (gs : List Int) : Value := match lateW r.limit r.worn (fun k => gs.getD k 0) gs.length with
  | some x => .tuple #[.int .u64 x, .bool true]
  | none => .tuple #[.int .u64 0, .bool false]

set_option maxRecDepth 20000 in
set_option maxHeartbeats 1600000 in
theorem late03 (v : Value) (r : Rec) (q : Option Addr) (gs : List Int) (c : Nat) (w : World) (hv : RecV w v r) (hr : 0 ≤ r.worn ∧ r.worn ≤ 99999) (hn : gs.length ≤ 6) (hg : ∀ k, 0 ≤ gs.getD k 0 ∧ gs.getD k 0 ≤ 9801) (h : IntsAt w q gs) :
    Calls Try.prog 106 #[v, .slice q gs.length c] w (RetE (lateV r gs) w) := by
  obtain ⟨rp, rc, rfl, -⟩ := hv
  obtain ⟨n, hnn⟩ : ∃ n, n = gs.length := ⟨_, rfl⟩
  have HG := Lib.hid hg
  have HR := Lib.hid hr
  clear hg
  go_enter Try.func106, Try.ntmps106
  go_upto_region 1 with (fail)
  have hn1 := heap_new w (.cells #[.int .i64 r.worn, .int .i64 r.limit, .int .i64 r.price, .slice rp r.plays.length rc] 54)
  obtain ⟨W, hW⟩ : ∃ W, W = w.alloc (.cells #[.int .i64 r.worn, .int .i64 r.limit, .int .i64 r.price, .slice rp r.plays.length rc] 54) := ⟨_, rfl⟩
  have hE : Ext w W := by rw [hW]; exact Ext.alloc (Ext.refl w) _
  rw [← hW] at hn1 ⊢
  have q0 := ExtW.cell (v := .int .i64 r.worn) (cell_of_heap hn1 0)
  have q1 := ExtW.cell (v := .int .i64 r.limit) (cell_of_heap hn1 1)
  have kh := h.ext hE
  obtain ⟨x0, hx0⟩ := ExtW.of (Ext.refl W)
  clear hW hn1 h
  conv => arg 5; rw [hx0]
  clear hx0 hnn
  go_wp2
  go_loopw [4, 6, 13] (fun xv wv i wr => ∃ (k : Nat) (wn : Int) (m : Nat), k ≤ gs.length ∧ i = .int .i64 k ∧ wv = .int .i64 wn ∧ xv = .int .u64 m ∧ lateTo r.limit r.worn (fun k => gs.getD k 0) k = some (wn, m) ∧ ∃ x : ExtW W, wr = x.w) (fun _ _ i _ => gs.length - (intOf i).toNat)
  case atStart => exact ⟨0, r.worn, 0, by omega, rfl, rfl, rfl, rfl, x0, rfl⟩
  case round =>
    clear x0
    obtain ⟨k, wn, m, hk, rfl, rfl, rfl, hlt, x, rfl⟩ := hrel
    have hbd := lateTo_bd HR.out HG.out k wn m hlt
    have HLT := Lib.hid hlt
    clear hlt
    by_cases hlk : k < gs.length
    · obtain ⟨b, o, rfl, hc⟩ := kh.at k hlk
      have rc := ExtW.cell hc
      have hgd : gs.getD k 0 = gs[k] := by simp [List.getD, hlk]
      have hgb := HG.out k
      rw [hgd] at hgb
      obtain ⟨gk, hgk⟩ : ∃ gk, gk = gs[k] := ⟨_, rfl⟩
      rw [← hgk] at rc hgb hgd
      have hsn : Hid (lateTo r.limit r.worn (fun k => gs.getD k 0) (k + 1) = if r.limit < gk then none else if r.limit < wn + gk then some (gk, m ||| 2 ^ k) else some (wn + gk, m)) := by
        show (match lateTo r.limit r.worn (fun k => gs.getD k 0) k with | none => none | some (w, x) => if r.limit < gs.getD k 0 then none else if r.limit < w + gs.getD k 0 then some (gs.getD k 0, x ||| 2 ^ k) else some (w + gs.getD k 0, x)) = _
        rw [HLT.out, hgd]
      clear hc hgd hgk
      by_cases h1 : r.limit < gk
      · have h1' : decide (r.limit < gk) = true := by simpa using h1
        have H1 := Lib.hid h1
        clear h1
        go_wp2
        go_ret2
        refine RetE.fin (hE.trans x.h) ?_
        have key : ∀ j, lateTo r.limit r.worn (fun k => gs.getD k 0) (k + 1 + j) = none := by
          intro j
          induction j with
          | zero => rw [Nat.add_zero, hsn.out, if_pos (by have := H1.out; omega)]
          | succ j ih => rw [← Nat.add_assoc]; simp only [lateTo, ih]
        have := key (gs.length - (k + 1))
        rw [show k + 1 + (gs.length - (k + 1)) = gs.length from by omega] at this
        simp only [lateV, lateW, this, Option.map_none]
        rfl
      · have h1' : decide (r.limit < gk) = false := by simpa using h1
        have H1 := Lib.hid h1
        clear h1
        have hwr : IntKind.i64.wrap (wn + gk) = wn + gk := IntWalk.i64_in _ (by omega)
        by_cases h2 : r.limit < wn + gk
        · have h2' : decide (r.limit < wn + gk) = true := by simpa using h2
          have H2 := Lib.hid h2
          have hpw := wrap_pow k (by omega)
          have h64 : 2 ^ k < 64 := Nat.pow_lt_pow_right (n := 6) (a := 2) (by decide) (by omega)
          have hm64 : m < 64 := by omega
          obtain ⟨P2, hP2⟩ : ∃ P2 : Nat, P2 = 2 ^ k := ⟨_, rfl⟩
          rw [← hP2] at hpw h64
          have hor := bits_or_u64_nat m P2 (by omega) (by omega)
          have HP2 := Lib.hid hP2
          have HBD := Lib.hid hbd
          clear h2 hP2 hbd
          go_wp2
          refine wp_region_extW (by kernel_rfl) (by kernel_rfl) ?_
          repeat (go_big_quiet_step (fail))
          refine wpQuiet_nil ?_
          rintro _ ⟨x2, rfl⟩
          go_wp2
          go_roundw
          case rel => exact ⟨k + 1, gk, m ||| P2, by omega, by go_num, rfl, by first | rfl | (rw [hpw, hor]), by rw [hsn.out, if_neg (by have := H1.out; omega), if_pos (by have := H2.out; omega), HP2.out], x2, rfl⟩
          case measure => simp [intOf]; omega
        · have h2' : decide (r.limit < wn + gk) = false := by simpa using h2
          have H2 := Lib.hid h2
          clear h2
          go_wp2
          go_roundw
          case rel => exact ⟨k + 1, wn + gk, m, by omega, by go_num, by first | rfl | (rw [hwr]), rfl, by rw [hsn.out, if_neg (by have := H1.out; omega), if_neg (by have := H2.out; omega)], x, rfl⟩
          case measure => simp [intOf]; omega
    · obtain rfl : k = gs.length := by omega
      go_wp2
      go_ret2
      refine RetE.fin (hE.trans x.h) ?_
      simp only [lateV, lateW, HLT.out, Option.map_some]
      rfl
end Go.Proofs.Ytkcilgjkdiopnaa
namespace Go.Proofs.Ytkcilgjkdiopnaa
open Go.RowKit

set_option maxRecDepth 20000 in
set_option maxHeartbeats 1600000 in
theorem cost03 (v u : Value) (X : Wr) (c : Ch) (w : World) (hv : WrV w v X) (hX : ValidW X) (hu : ChV w u c) (hc : ChOK X c) :
    Calls Try.prog 95 #[v, u] w (RetE (.int .i64 (costTo X c c.records.length)) w) := by
  obtain ⟨p, cp, q, d, rfl, -, h2⟩ := hv
  obtain ⟨s, cs, rfl, h3⟩ := hu
  have h4 := hX.recs
  have hlen := hc.len
  have HX := Lib.hid hX
  have HC := Lib.hid hc
  have HL := Lib.hid hlen
  have hcl : c.records.length ≤ 4 := by omega
  clear hX hc hlen
  go_enter Try.func95, Try.ntmps95
  go_upto_region 1 with (fail)
  obtain ⟨W, hW⟩ : ∃ W, W = (w.alloc (.cells #[.int .i64 X.weeks, .int .i64 X.price, .int .i64 X.age, .int .i64 X.step, .slice p X.rough.length cp, .slice q X.recs.length d] 88)).alloc (.cells #[.int .u64 c.needles, .slice s c.records.length cs] 105) := ⟨_, rfl⟩
  have hn1 := heap_new1 w (.cells #[.int .i64 X.weeks, .int .i64 X.price, .int .i64 X.age, .int .i64 X.step, .slice p X.rough.length cp, .slice q X.recs.length d] 88) (.cells #[.int .u64 c.needles, .slice s c.records.length cs] 105)
  have hn2 := heap_new2 w (.cells #[.int .i64 X.weeks, .int .i64 X.price, .int .i64 X.age, .int .i64 X.step, .slice p X.rough.length cp, .slice q X.recs.length d] 88) (.cells #[.int .u64 c.needles, .slice s c.records.length cs] 105)
  have hE : Ext w W := by rw [hW]; exact Ext.alloc (Ext.alloc (Ext.refl w) _) _
  rw [← hW] at hn1 hn2 ⊢
  have q5 := ExtW.cell (v := .slice q X.recs.length d) (cell_of_heap hn1 5)
  have n1 := ExtW.cell (v := .slice s c.records.length cs) (cell_of_heap hn2 1)
  have k2 := h2.ext hE
  have k3 := h3.ext hE
  obtain ⟨x0, hx0⟩ := ExtW.of (Ext.refl W)
  clear hW hn1 hn2 h2 h3
  conv => arg 5; rw [hx0]
  clear hx0
  go_wp2
  go_loopw [5, 11] (fun sv i wr => ∃ k : Nat, k ≤ c.records.length ∧ i = .int .i64 k ∧ sv = .int .i64 (costTo X c k) ∧ ∃ x : ExtW W, wr = x.w) (fun _ i _ => c.records.length - (intOf i).toNat)
  case atStart => exact ⟨0, Nat.zero_le _, rfl, rfl, x0, rfl⟩
  case round =>
    clear x0
    obtain ⟨k, hk, rfl, rfl, x, rfl⟩ := hrel
    have hbd := costTo_bd HX.out c k
    by_cases hlt : k < c.records.length
    · obtain ⟨b, o, rfl, hcc⟩ := k3.at k hlt
      have rc := ExtW.cell hcc
      have hm64 := HC.out.recs k hlt
      have hkr : k < X.recs.length := by have := HL.out; omega
      obtain ⟨rb, ro, q', c', rfl, -, -, r3, -, -⟩ := k2 k hkr
      have hpr := rec_bd HX.out k
      rw [show X.recs[k].price = (recW X k).price from by rw [recW_eq hkr]] at r3
      have hsn : costTo X c (k + 1) = costTo X c k + popc (c.records.getD k 0) * (recW X k).price := rfl
      rw [show c.records.getD k 0 = c.records[k] from by simp [List.getD, hlt]] at hsn
      obtain ⟨m, hm⟩ : ∃ m, m = c.records[k] := ⟨_, rfl⟩
      rw [← hm] at rc hm64 hsn
      have hpl := popc_le m
      have HM := Lib.hid (fun y : ExtW W => ExtW.call (RetQ.e (many03 m y.w hm64)))
      obtain ⟨pn, hpn⟩ : ∃ pn, pn = popc m := ⟨_, rfl⟩
      rw [← hpn] at hpl hsn HM
      obtain ⟨pr, hprr⟩ : ∃ pr, pr = (recW X k).price := ⟨_, rfl⟩
      rw [← hprr] at r3 hpr hsn
      have r3' := ExtW.cell r3
      obtain ⟨t, ht⟩ : ∃ t, t = costTo X c k := ⟨_, rfl⟩
      rw [← ht] at hbd hsn
      have hm0 : (0 : Int) ≤ (pn : Int) * pr := Int.mul_nonneg (by omega) hpr.1
      have hm1 : (pn : Int) * pr ≤ 6 * 999 := Int.mul_le_mul (by omega) hpr.2.1 hpr.1 (by decide)
      have hw1 : IntKind.i64.wrap ((pn : Int) * pr) = (pn : Int) * pr := IntWalk.i64_in _ (by omega)
      have hw2 : IntKind.i64.wrap (t + (pn : Int) * pr) = t + (pn : Int) * pr := IntWalk.i64_in _ (by omega)
      have HSN := Lib.hid hsn
      conv => arg 4; rw [← ht]
      clear hcc hm hpn hprr ht r3 hsn hm0 hm1
      go_upto_region 5 with (fail)
      refine wp_region_extW (by kernel_rfl) (by kernel_rfl) ?_
      repeat (go_big_quiet_step ((go_at_call 74; exact HM.out _)))
      refine wpQuiet_nil ?_
      rintro _ ⟨x2, rfl⟩
      go_wp2
      go_roundw
      case rel => exact ⟨k + 1, by omega, by go_num, by rw [HSN.out], x2, rfl⟩
      case measure => simp [intOf]; omega
    · obtain rfl : k = c.records.length := by omega
      go_wp2
      go_ret
      exact RetE.fin (hE.trans x.h) rfl

set_option maxRecDepth 20000 in
set_option maxHeartbeats 1600000 in
theorem all03 (v u : Value) (X : Wr) (c : Ch) (price : Int) (w : World) (hv : WrV w v X) (hX : ValidW X) (hu : ChV w u c) (hc : ChOK X c) (hp : 0 ≤ price ∧ price ≤ 999) :
    Calls Try.prog 65 #[v, u, .int .i64 price] w (RetE (.int .i64 (allW X c price)) w) := by
  have hco := fun w' (h : Ext w w') => cost03 v u X c w' (WrV.mono _ _ _ _ h hv) hX (ChV.mono _ _ _ _ h hu) hc
  obtain ⟨p, cp, q, d, rfl, -, -⟩ := hv
  obtain ⟨s, cs, rfl, -⟩ := hu
  have hbd := costTo_bd hX c c.records.length
  have hcl : c.records.length ≤ 4 := by rw [hc.len]; exact hX.recs
  have hpl := popc_le c.needles
  have hml := hc.needles
  have HAW : Hid (allW X c price = costTo X c c.records.length + popc c.needles * price) := Lib.hid rfl
  obtain ⟨t, ht⟩ : ∃ t, t = costTo X c c.records.length := ⟨_, rfl⟩
  rw [← ht] at hco hbd HAW
  obtain ⟨nn, hnn⟩ : ∃ nn, nn = c.needles := ⟨_, rfl⟩
  rw [← hnn] at hpl hml HAW hco ⊢
  have hmy := fun w' => many03 nn w' hml
  obtain ⟨pn, hpn⟩ : ∃ pn, pn = popc nn := ⟨_, rfl⟩
  rw [← hpn] at hpl HAW
  simp only [← hpn] at hmy
  have hm0 : (0 : Int) ≤ (pn : Int) * price := Int.mul_nonneg (by omega) hp.1
  have hm1 : (pn : Int) * price ≤ 6 * 999 := Int.mul_le_mul (by omega) hp.2 hp.1 (by decide)
  have hw1 : IntKind.i64.wrap ((pn : Int) * price) = (pn : Int) * price := IntWalk.i64_in _ (by omega)
  have hw2 : IntKind.i64.wrap (t + (pn : Int) * price) = t + (pn : Int) * price := IntWalk.i64_in _ (by omega)
  have HCO := Lib.hid hco
  have HMY := Lib.hid hmy
  clear hco hX hc ht hnn hpn hm0 hm1 hmy hbd hcl
  go_enter Try.func65, Try.ntmps65
  go_upto_region 1 with (fail)
  obtain ⟨W, hW⟩ : ∃ W, W = (w.alloc (.cells #[.int .i64 X.weeks, .int .i64 X.price, .int .i64 X.age, .int .i64 X.step, .slice p X.rough.length cp, .slice q X.recs.length d] 88)).alloc (.cells #[.int .u64 nn, .slice s c.records.length cs] 105) := ⟨_, rfl⟩
  have hn1 := heap_new1 w (.cells #[.int .i64 X.weeks, .int .i64 X.price, .int .i64 X.age, .int .i64 X.step, .slice p X.rough.length cp, .slice q X.recs.length d] 88) (.cells #[.int .u64 nn, .slice s c.records.length cs] 105)
  have hn2 := heap_new2 w (.cells #[.int .i64 X.weeks, .int .i64 X.price, .int .i64 X.age, .int .i64 X.step, .slice p X.rough.length cp, .slice q X.recs.length d] 88) (.cells #[.int .u64 nn, .slice s c.records.length cs] 105)
  have hE : Ext w W := by rw [hW]; exact Ext.alloc (Ext.alloc (Ext.refl w) _) _
  rw [← hW] at hn1 hn2 ⊢
  have q0 := ExtW.cell (v := .int .i64 X.weeks) (cell_of_heap hn1 0)
  have q1 := ExtW.cell (v := .int .i64 X.price) (cell_of_heap hn1 1)
  have q2 := ExtW.cell (v := .int .i64 X.age) (cell_of_heap hn1 2)
  have q3 := ExtW.cell (v := .int .i64 X.step) (cell_of_heap hn1 3)
  have q4 := ExtW.cell (v := .slice p X.rough.length cp) (cell_of_heap hn1 4)
  have q5 := ExtW.cell (v := .slice q X.recs.length d) (cell_of_heap hn1 5)
  have n0 := ExtW.cell (v := .int .u64 nn) (cell_of_heap hn2 0)
  have n1 := ExtW.cell (v := .slice s c.records.length cs) (cell_of_heap hn2 1)
  have HC2 := Lib.hid (fun y : ExtW W => ExtW.call (HCO.out y.w (hE.trans y.h)))
  have HM2 := Lib.hid (fun y : ExtW W => ExtW.call (RetQ.e (HMY.out y.w)))
  obtain ⟨x0, hx0⟩ := ExtW.of (Ext.refl W)
  clear hW hn1 hn2 HCO HMY
  conv => arg 5; rw [hx0]
  clear hx0
  refine wp_region_extW (by kernel_rfl) (by kernel_rfl) ?_
  repeat (go_big_quiet_step ((first | (go_at_call 95; exact HC2.out _) | (go_at_call 74; exact HM2.out _))))
  refine wpQuiet_nil ?_
  rintro _ ⟨x2, rfl⟩
  go_wp2
  go_ret
  exact RetE.fin (hE.trans x2.h) (by rw [HAW.out]; rfl)

set_option maxRecDepth 20000 in
set_option maxHeartbeats 1600000 in
theorem whole03 (v u : Value) (X : Wr) (c : Ch) (w : World) (hv : WrV w v X) (hX : ValidW X) (hu : ChV w u c) (hc : ChOK X c) :
    Calls Try.prog 62 #[v, u] w (RetE (.int .i64 (allW X c X.price)) w) := by
  have hal := fun w' (h : Ext w w') => all03 v u X c X.price w' (WrV.mono _ _ _ _ h hv) hX (ChV.mono _ _ _ _ h hu) hc hX.price
  obtain ⟨p, cp, q, d, rfl, -, -⟩ := hv
  obtain ⟨s, cs, rfl, -⟩ := hu
  have HAL := Lib.hid hal
  clear hal hX hc
  go_enter Try.func62, Try.ntmps62
  go_upto_region 1 with (fail)
  obtain ⟨W, hW⟩ : ∃ W, W = (w.alloc (.cells #[.int .i64 X.weeks, .int .i64 X.price, .int .i64 X.age, .int .i64 X.step, .slice p X.rough.length cp, .slice q X.recs.length d] 88)).alloc (.cells #[.int .u64 c.needles, .slice s c.records.length cs] 105) := ⟨_, rfl⟩
  have hn1 := heap_new1 w (.cells #[.int .i64 X.weeks, .int .i64 X.price, .int .i64 X.age, .int .i64 X.step, .slice p X.rough.length cp, .slice q X.recs.length d] 88) (.cells #[.int .u64 c.needles, .slice s c.records.length cs] 105)
  have hn2 := heap_new2 w (.cells #[.int .i64 X.weeks, .int .i64 X.price, .int .i64 X.age, .int .i64 X.step, .slice p X.rough.length cp, .slice q X.recs.length d] 88) (.cells #[.int .u64 c.needles, .slice s c.records.length cs] 105)
  have hE : Ext w W := by rw [hW]; exact Ext.alloc (Ext.alloc (Ext.refl w) _) _
  rw [← hW] at hn1 hn2 ⊢
  have q0 := ExtW.cell (v := .int .i64 X.weeks) (cell_of_heap hn1 0)
  have q1 := ExtW.cell (v := .int .i64 X.price) (cell_of_heap hn1 1)
  have q2 := ExtW.cell (v := .int .i64 X.age) (cell_of_heap hn1 2)
  have q3 := ExtW.cell (v := .int .i64 X.step) (cell_of_heap hn1 3)
  have q4 := ExtW.cell (v := .slice p X.rough.length cp) (cell_of_heap hn1 4)
  have q5 := ExtW.cell (v := .slice q X.recs.length d) (cell_of_heap hn1 5)
  have n0 := ExtW.cell (v := .int .u64 c.needles) (cell_of_heap hn2 0)
  have n1 := ExtW.cell (v := .slice s c.records.length cs) (cell_of_heap hn2 1)
  have HC2 := Lib.hid (fun y : ExtW W => ExtW.call (HAL.out y.w (hE.trans y.h)))
  obtain ⟨x0, hx0⟩ := ExtW.of (Ext.refl W)
  clear hW hn1 hn2 HAL
  conv => arg 5; rw [hx0]
  clear hx0
  go_wp2_with (go_at_call 65; refine (HC2.out _).mono ?_; rintro e w' ⟨rfl, x2, rfl⟩)
  go_ret
  exact RetE.fin (hE.trans x2.h) rfl
end Go.Proofs.Ytkcilgjkdiopnaa
namespace Go.Proofs.Ytkcilgjkdiopnaa
open Go.RowKit

theorem madeCells_eq (z : Value) (n : Nat) : madeCells #[z] n = (List.replicate n z).toArray := by
  apply Array.ext
  · simp [madeCells]
  · intro i h1 h2
    simp [madeCells, Nat.mod_one]

/-- rows in the array of block G: row i reads Ls i, in a block of its own from B on -/
structure RowsG (W : World) (B G : Nat) (vs : List Value) (Ls : Nat → List Int) : Prop where
  arr : W.heap[G]? = some (.cells vs.toArray 22 (0, 0))
  row : ∀ i (h : i < vs.length), W.ownsRow B 3 1 vs[i] (Ls i).length (intVs (Ls i))
  apart : ∀ i j (hi : i < vs.length) (hj : j < vs.length), i ≠ j → ∀ b, vs[i].ownBlock = some b → vs[j].ownBlock ≠ some b

theorem RowsG.fr {W W' : World} {B G : Nat} {vs : List Value} {Ls : Nat → List Int} {E : Nat → Prop} (h : RowsG W B G vs Ls) (hF : Fr E W W') (hG : ¬E G) (hE : ∀ b, B ≤ b → b < W.heap.size → ¬E b) : RowsG W' B G vs Ls :=
  ⟨(hF.block G (Array.getElem?_eq_some_iff.1 h.arr).1 hG).trans h.arr, fun i hi => ownsRow_fr (h.row i hi) hF (fun b hb => by have := (h.row i hi).lt b hb; exact hE b this.1 this.2), h.apart⟩

/-- one more number behind row i -/
theorem RowsG.step {W W' : World} {B G g i cap : Nat} {vs : List Value} {Ls : Nat → List Int} {x : Int} (h : RowsG W B G vs Ls) (hi : i < vs.length) (hGB : G < B)
    (hown : W'.ownsRow B 3 1 (.slice (some ⟨g, 0, none⟩) ((Ls i).length + 1) cap) ((Ls i).length + 1) (intVs (Ls i) ++ [.int .i64 x])) (hgr : W.grownBy W' vs[i].ownBlock) (hat : vs[i].ownBlock = some g ∨ g = W.heap.size) :
    RowsG (W'.setCell ⟨G, i, none⟩ (.slice (some ⟨g, 0, none⟩) ((Ls i).length + 1) cap)) B G (vs.set i (.slice (some ⟨g, 0, none⟩) ((Ls i).length + 1) cap)) (fun j => if j = i then Ls i ++ [x] else Ls j) := by
  have hGi : vs[i].ownBlock ≠ some G := fun e => by have := ((h.row i hi).lt G e).1; omega
  have hgB : B ≤ g := (hown.lt g rfl).1
  have hFs : Fr (fun k => k = G) W' (W'.setCell ⟨G, i, none⟩ (.slice (some ⟨g, 0, none⟩) ((Ls i).length + 1) cap)) := (Fr.refl _ _).set rfl
  refine ⟨?_, ?_, ?_⟩
  · refine heap_set ((hgr.block G (Array.getElem?_eq_some_iff.1 h.arr).1 (fun e => hGi e.symm)).trans h.arr) ?_
    simp
  · intro j hj
    rw [List.length_set] at hj
    by_cases e : j = i
    · subst e
      simp only [List.getElem_set_self, if_true]
      have := ownsRow_fr hown hFs (fun b hb e2 => by cases hb; have e3 : g = G := e2; omega)
      rw [show intVs (Ls j ++ [x]) = intVs (Ls j) ++ [.int .i64 x] from by simp [intVs]]
      rw [show (Ls j ++ [x]).length = (Ls j).length + 1 from by simp]
      exact this
    · rw [if_neg e]
      have h1 := ownsRow_fr (h.row j hj) (grown_fr hgr) (fun b hb e2 => h.apart i j hi hj (fun e3 => e e3.symm) b e2 hb)
      have h2 := ownsRow_fr h1 hFs (fun b hb e2 => by have := (h1.lt b hb).1; have e3 : b = G := e2; omega)
      rw [List.getElem_set_ne (fun e3 => e e3.symm)]
      exact h2
  · intro j k hj' hk' hjk b hb hc
    have hj : j < vs.length := by rwa [List.length_set] at hj'
    have hk : k < vs.length := by rwa [List.length_set] at hk'
    have new : ∀ m (hm : m < vs.length), m ≠ i → vs[m].ownBlock = some g → False := fun m hm hmi hg => by
      rcases hat with ha | ha
      · exact h.apart i m hi hm (fun e => hmi e.symm) g ha hg
      · have := ((h.row m hm).lt g hg).2; omega
    by_cases e1 : j = i
    · subst e1
      rw [List.getElem_set_self] at hb
      rw [List.getElem_set_ne hjk] at hc
      cases hb
      exact new k hk (fun e => hjk e.symm) hc
    · rw [List.getElem_set_ne (fun e => e1 e.symm)] at hb
      by_cases e2 : k = i
      · subst e2
        rw [List.getElem_set_self] at hc
        cases hc
        exact new j hj e1 hb
      · rw [List.getElem_set_ne (fun e => e2 e.symm)] at hc
        exact h.apart j k hj hk hjk b hb hc
end Go.Proofs.Ytkcilgjkdiopnaa
namespace Go.Proofs.Ytkcilgjkdiopnaa
open Go.RowKit

/-- by how much record i is worn in each of the first k weeks -/
def gl (X : Wr) (N i k : Nat) : List Int := (List.range k).map fun wk => grd X N wk i
theorem gl_len (X : Wr) (N i k : Nat) : (gl X N i k).length = k := by simp [gl]
theorem gl_succ (X : Wr) (N i k : Nat) : gl X N i (k + 1) = gl X N i k ++ [grd X N k i] := by simp [gl, List.range_succ]
theorem gl_get (X : Wr) (N i k j : Nat) (h : j < k) : (gl X N i k).getD j 0 = grd X N j i := by simp [gl, List.getD, h]
theorem lateTo_congr {lim w0 : Int} {g g' : Nat → Int} : ∀ n, (∀ k, k < n → g k = g' k) → lateTo lim w0 g n = lateTo lim w0 g' n
  | 0, _ => rfl
  | n + 1, h => by
    simp only [lateTo, lateTo_congr n (fun k hk => h k (by omega)), h n (by omega)]
theorem lateV_gl (X : Wr) (N i long : Nat) : lateV (recW X i) (gl X N i long) = match lateW (recW X i).limit (recW X i).worn (fun k => grd X N k i) long with
    | some x => .tuple #[.int .u64 x, .bool true]
    | none => .tuple #[.int .u64 0, .bool false] := by
  unfold lateV lateW
  rw [gl_len, lateTo_congr long (fun k hk => gl_get X N i long k hk)]
  all_goals (cases lateTo (recW X i).limit (recW X i).worn (fun k => grd X N k i) long <;> rfl)
theorem glj_step (X : Wr) (N k j : Nat) : (fun i => if i = j then (if j < j then gl X N j (k + 1) else gl X N j k) ++ [grd X N k j] else if i < j then gl X N i (k + 1) else gl X N i k) = fun i => if i < j + 1 then gl X N i (k + 1) else gl X N i k := by
  funext i
  by_cases h : i = j
  · subst h
    rw [if_pos rfl, if_neg (Nat.lt_irrefl _), if_pos (by omega), gl_succ]
  · rw [if_neg h]
    by_cases h2 : i < j
    · rw [if_pos h2, if_pos (by omega)]
    · rw [if_neg h2, if_neg (by omega)]

theorem recsTo_none {X : Wr} {N long : Nat} {i : Nat} (h : recsTo X N long i = none) : ∀ j, i ≤ j → recsTo X N long j = none := by
  intro j
  induction j with
  | zero => intro hj; obtain rfl : i = 0 := by omega
            exact h
  | succ j ih =>
    intro hj
    by_cases e : i = j + 1
    · rw [← e]; exact h
    · simp only [recsTo, ih (by omega)]
def maskVs (l : List Nat) : List Value := l.map fun m : Nat => Value.int .u64 (m : Int)
theorem maskVs_len (l : List Nat) : (maskVs l).length = l.length := by simp [maskVs]
theorem info_m : (Try.prog.info? 102).map (fun i => (i.zero, i.size, i.bytes)) = some (some (.int .u64 0), 1, 8) := by kernel_rfl
theorem row_masks {w : World} {B : Nat} {v : Value} {l : List Nat} (h : w.ownsRow B 102 1 v l.length (maskVs l)) : ∃ p c, v = .slice p l.length c ∧ MasksAt w p l ∧ (∀ a, p = some a → B ≤ a.block) ∧ ∀ a, p = some a → ∃ cs, w.heap[a.block]? = some (.cells cs 102 (0, 0)) := by
  rcases h.2 with ⟨rfl, h0⟩ | ⟨g, cap, cur, rfl, -, hgc, -⟩
  · have : l = [] := List.length_eq_zero_iff.1 h0
    subst this
    exact ⟨none, 0, rfl, fun i hi => absurd hi (by simp), fun a ha => (by cases ha), fun a ha => (by cases ha)⟩
  · refine ⟨_, _, rfl, fun i hi => ?_, fun a ha => (by cases ha; exact (h.lt g rfl).1), fun a ha => (by cases ha; exact ⟨cur, hgc⟩)⟩
    obtain ⟨b', c', he, hc⟩ := ownsRow_at h i hi
    cases he
    refine ⟨g, 0, _, rfl, ?_, rfl⟩
    rw [Nat.zero_add, hc]
    simp [maskVs, hi]
theorem one_mask (n : Int) : ∀ u ∈ [Value.int .u64 n], u.oneCell' = true := by
  intro u hu; simp at hu; subst hu; rfl

theorem wpList_append_lies {w : World} {ops : Array Oper} {rest : List Oper} {o : Oper} {a : Act} {Q : Exit → Act → World → Prop} (hgd : o.guard = none) (s x : Operand) (t : TypeId)
    (ho : o.op = .call { callee := .builtin .append, args := #[s, x], argTypes := #[t, t] })
    (base : Nat) (e : TypeId) (i : TypeInfo) (z : Value) (size bytes : Nat) (ht : Try.prog.underlying t = some (.slice e)) (hi : Try.prog.info? e = some i) (hz : i.zero = some z)
    (hsize : i.size = size) (hby : i.bytes = bytes) (hzs : z.cells.size = size) (hsz : 0 < size)
    (v : Value) (n : Nat) (xs : List Value) (hs : a.eval s = v) (hown : w.ownsRow base e size v n xs)
    (ad : Addr) (m c : Nat) (news : List Value) (hx : a.eval x = .slice (some ad) m c) (hl : news.length = m * size) (hnews : ∀ j u, news[j]? = some u → w.cell? (ad.add j) = some u) (h1 : ∀ u ∈ news, u.oneCell' = true)
    (hm : 0 < m) (h63 : n + m ≤ maxLen) (hbytes : (n + m) * bytes ≤ 140737488355328) (hbase : base ≤ w.heap.size)
    (h : ∀ g cap w', w'.ownsRow base e size (.slice (some ⟨g, 0, none⟩) (n + m) cap) (n + m) (xs ++ news) → w.grownBy w' v.ownBlock → (v.ownBlock = some g ∨ g = w.heap.size) → wpList Try.prog ops Q rest (a.put o.dst (.slice (some ⟨g, 0, none⟩) (n + m) cap)) w') : wpList Try.prog ops Q (o :: rest) a w :=
  wpList_plain hgd fun _ hK => wp_append_lies w s x t ho base e i z size bytes ht hi hz hsize hby hzs hsz v n xs hs hown ad m c news hx hl hnews h1 hm h63 hbytes hbase w.heap.size rfl fun g cap w' h2 h3 h4 _ => hK _ _ (h g cap w' h2 h3 h4)

/-- a choice whose records lie in block B0 or later -/
def ChN (B0 : Nat) (w : World) (v : Value) (c : Ch) : Prop := ∃ p cap, v = .agg #[.int .u64 c.needles, .slice p c.records.length cap] ∧ MasksAt w p c.records ∧ ∀ a, p = some a → B0 ≤ a.block
/-- the same, and what kind of block they lie in -/
def ChK (B0 : Nat) (w : World) (v : Value) (c : Ch) : Prop := ∃ p cap, v = .agg #[.int .u64 c.needles, .slice p c.records.length cap] ∧ MasksAt w p c.records ∧ (∀ a, p = some a → B0 ≤ a.block) ∧ ∀ a, p = some a → ∃ cs, w.heap[a.block]? = some (.cells cs 102 (0, 0))
theorem ChN.ch {B0 : Nat} {w : World} {v : Value} {c : Ch} (h : ChN B0 w v c) : ChV w v c := by
  obtain ⟨p, cap, h1, h2, -⟩ := h
  exact ⟨p, cap, h1, h2⟩
theorem MasksAt.fr {w w' : World} {p : Option Addr} {l : List Nat} {E : Nat → Prop} (h : MasksAt w p l) (hF : Fr E w w') (hn : ∀ a, p = some a → ¬E a.block) : MasksAt w' p l := by
  intro i hi
  obtain ⟨b, o, v, hp, hc, hv⟩ := h i hi
  exact ⟨b, o, v, hp, hF.cell hc (hn _ hp), hv⟩
def zeroCh : Value := .agg #[.int .u64 0, .slice none 0 0]
/-- what choose returns -/
def ChPost (o : Option Ch) (w : World) (e : Ending) (w' : World) : Prop :=
  Ext w w' ∧ match o with
    | some c => ∃ v, e = .returned (.tuple #[v, .bool true]) ∧ ChN w.heap.size w' v c
    | none => e = .returned (.tuple #[zeroCh, .bool false])

def ChPostK (o : Option Ch) (w : World) (e : Ending) (w' : World) : Prop :=
  Ext w w' ∧ match o with
    | some c => ∃ v, e = .returned (.tuple #[v, .bool true]) ∧ ChK w.heap.size w' v c
    | none => e = .returned (.tuple #[zeroCh, .bool false])

set_option maxRecDepth 20000 in
set_option maxHeartbeats 6400000 in
theorem choose03 (v : Value) (X : Wr) (N long : Nat) (w : World) (hv : WrV w v X) (hX : ValidW X) (hl : (long : Int) ≤ X.weeks) (hN : N < 64) :
    Calls Try.prog 94 #[v, .int .u64 N, .int .i64 long] w (ChPostK (chooseW X N long) w) := by
  obtain ⟨p, c, q, d, rfl, h1, h2⟩ := hv
  have h4 := hX.recs
  have hl6 : long ≤ 6 := by have := hX.weeks; omega
  obtain ⟨i0, hi, hz0, hz1, hz2⟩ := info_parts info_a
  have HX := Lib.hid hX
  have HRA := Lib.hid h2
  have HGA := Lib.hid h1
  clear h1 h2 hX
  go_enter Try.func94, Try.ntmps94
  go_upto_region 1 with (fail)
  obtain ⟨W, hW⟩ : ∃ W, W = (w.alloc (bxO X p c q d)).alloc (.cells #[.int .u64 0, .slice none 0 0] 105) := ⟨_, rfl⟩
  have hn1 := heap_new1 w (bxO X p c q d) (.cells #[.int .u64 0, .slice none 0 0] 105)
  have hn2 := heap_new2 w (bxO X p c q d) (.cells #[.int .u64 0, .slice none 0 0] 105)
  have hE : Ext w W := by rw [hW]; exact Ext.alloc (Ext.alloc (Ext.refl w) _) _
  have hsW : W.heap.size = w.heap.size + 2 := by rw [hW]; simp only [size_alloc]
  rw [← hW] at hn1 hn2
  unfold bxO at hW
  rw [← hW]
  have c5 : W.cell? ⟨w.heap.size, 5, none⟩ = some (.slice q X.recs.length d) := (cell_of_heap hn1 5).trans rfl
  have hmk := fun w => run_make_row' (P := Try.prog) 155 22 (.slice none 0 0) 24 Try.underlying155 info_b rfl .i64 .i64 X.recs.length (by omega) (by omega) w
  have HN1 := Lib.hid hn1
  have HN2 := Lib.hid hn2
  have HE := Lib.hid hE
  have HSW := Lib.hid hsW
  clear hW hn1 hn2 hE hsW
  go_upto_region 2 with (fail)
  have hsW := HSW.out
  rw [madeCells_eq]
  clear hmk
  obtain ⟨W1, hW1⟩ : ∃ W1, W1 = W.alloc (.cells (List.replicate X.recs.length (Value.slice none 0 0)).toArray 22) := ⟨_, rfl⟩
  have hg1 := heap_new W (.cells (List.replicate X.recs.length (Value.slice none 0 0)).toArray 22)
  rw [← hW1] at hg1
  have hE1 : Ext W W1 := by rw [hW1]; exact Ext.alloc (Ext.refl _) _
  have hs1 : W1.heap.size = W.heap.size + 1 := by rw [hW1]; simp only [size_alloc]
  rw [← hW1]
  obtain ⟨G, hG⟩ : ∃ G, G = W.heap.size := ⟨_, rfl⟩
  rw [← hG] at hg1 ⊢
  have k2 : W1.cell? ⟨w.heap.size, 2, none⟩ = some (.int .i64 X.age) := hE1.cell ((cell_of_heap HN1.out 2).trans rfl)
  have hGw : G = w.heap.size + 2 := by omega
  have HG := Lib.hid hGw
  have HG1 := Lib.hid hg1
  have HE1 := Lib.hid hE1
  have hGl : w.heap.size + 1 < G := by omega
  have hG1l : G < W1.heap.size := by omega
  clear hW1 hg1 hE1 hs1 hG hGw hsW
  go_upto_region 3 with (fail)
  obtain ⟨W0, hW0⟩ : ∃ W0, W0 = W1.alloc (.cells #[.int .i64 X.age] 91) := ⟨_, rfl⟩
  have hnd := heap_new W1 (.cells #[.int .i64 X.age] 91)
  rw [← hW0] at hnd
  have hE0 : Ext W1 W0 := by rw [hW0]; exact Ext.alloc (Ext.refl _) _
  have hs0 : W0.heap.size = W1.heap.size + 1 := by rw [hW0]; simp only [size_alloc]
  rw [← hW0]
  obtain ⟨D, hD⟩ : ∃ D, D = W1.heap.size := ⟨_, rfl⟩
  rw [← hD] at hnd ⊢
  have hGD : G < D := by omega
  have hD0 : D + 1 = W0.heap.size := by omega
  have hrow0 : RowsG W0 W0.heap.size G (List.replicate X.recs.length (Value.slice none 0 0)) (fun i => gl X N i 0) := by
    refine ⟨(Below.block hE0 G (by omega)).trans HG1.out, fun i hi => ?_, fun i j hi hj hij b hb => ?_⟩
    · rw [List.getElem_replicate]
      exact World.ownsRow_nil _ _ _ _
    · rw [List.getElem_replicate] at hb; cases hb
  have hEw : Ext w W0 := (HE.out.trans HE1.out).trans hE0
  have hbx0 : W0.heap[w.heap.size]? = some (bxO X p c q d) := (Below.block (HE1.out.trans hE0) _ (Array.getElem?_eq_some_iff.1 HN1.out).1).trans HN1.out
  have hch0 : W0.heap[w.heap.size + 1]? = some (.cells #[.int .u64 0, .slice none 0 0] 105 (0, 0)) := (Below.block (HE1.out.trans hE0) _ (Array.getElem?_eq_some_iff.1 HN2.out).1).trans HN2.out
  have HROW := Lib.hid hrow0
  have HND := Lib.hid hnd
  have HEW : Hid (∀ z, Fr (fun i => i = G ∨ i = D) W0 z → Ext w z) := Lib.hid fun z hz => Fr.ext hEw hz (fun i hi => by omega)
  have HBX : Hid (∀ z, Fr (fun i => i = G ∨ i = D) W0 z → z.heap[w.heap.size]? = some (bxO X p c q d)) := Lib.hid fun z hz => (hz.block _ (by omega) (by omega)).trans hbx0
  have HCH : Hid (∀ z, Fr (fun i => i = G ∨ i = D) W0 z → z.heap[w.heap.size + 1]? = some (.cells #[.int .u64 0, .slice none 0 0] 105 (0, 0))) := Lib.hid fun z hz => (hz.block _ (by omega) (by omega)).trans hch0
  clear hW0 hnd hE0 hs0 hD hrow0 hEw hbx0 hch0 k2 c5 HG1 HN1 HN2 HE HE1
  go_wp2
  go_loopw [27] (fun i wr => ∃ k : Nat, k ≤ long ∧ i = .int .i64 k ∧ ∃ vs, vs.length = X.recs.length ∧ RowsG wr W0.heap.size G vs (fun i => gl X N i k) ∧ wr.heap[D]? = some (.cells #[.int .i64 (ageB X N k)] 91 (0, 0)) ∧ Fr (fun i => i = G ∨ i = D) W0 wr) (fun i _ => long - (intOf i).toNat)
  case atStart => exact ⟨0, by omega, rfl, _, by simp, HROW.out, HND.out, Fr.refl _ _⟩
  case round =>
    clear HROW HND
    obtain ⟨k, hk, rfl, vs, hvs, hrow, hnd, hF⟩ := hrel
    have HVS := Lib.hid hvs
    have HROW := Lib.hid hrow
    have HND := Lib.hid hnd
    have HF := Lib.hid hF
    clear hvs hrow hnd hF
    by_cases hlt : k < long
    · have HAS := Lib.hid (fun w' => has03 N k w' hN (by omega))
      by_cases hb : N.testBit k = true
      · simp only [hb] at HAS
        go_upto_region 7 with (go_at_call 77; refine (HAS.out _).mono ?_; rintro e w' ⟨rfl, m, rfl⟩)
        have d0 : (wr.drewN m).cell? ⟨D, 0, none⟩ = some (.int .i64 (ageB X N k)) := (cell_of_heap HND.out 0).trans rfl
        have f0 : (wr.drewN m).frozen? ⟨D, 0, none⟩ = false := cell_frozen HND.out 0
        go_upto_region 8 with (fail)
        generalize hW2 : World.setCell _ _ _ = W2
        have hF2 : Fr (fun i => i = D) wr W2 := by rw [← hW2]; exact ((Fr.refl (fun i => i = D) wr).drewN m).set rfl
        have hnd2 : W2.heap[D]? = some (.cells #[.int .i64 (begA X N k)] 91 (0, 0)) := by rw [← hW2, begA, if_pos hb]; exact heap_set (heap_drewN HND.out) rfl
        have HND2 := Lib.hid hnd2
        have HF2 := Lib.hid hF2
        have HB := Lib.hid hb
        clear hW2 hF2 hnd2 d0 f0 hb
        have hrow2 := HROW.out.fr HF2.out (by omega) (fun b hb _ e => by omega)
        have HROW2 := Lib.hid hrow2
        have hF02 : Fr (fun i => i = G ∨ i = D) W0 W2 := HF.out.trans (HF2.out.mono fun i h => .inr h)
        have HF02 := Lib.hid hF02
        have c5 : W2.cell? ⟨w.heap.size, 5, none⟩ = some (.slice q X.recs.length d) := (cell_of_heap (HBX.out W2 hF02) 5).trans rfl
        clear hrow2 hF02 HF2 HND
        go_wp2
        go_loopw [37] (fun i wr => ∃ j : Nat, j ≤ X.recs.length ∧ i = .int .i64 j ∧ ∃ vs, vs.length = X.recs.length ∧ RowsG wr W0.heap.size G vs (fun i => if i < j then gl X N i (k + 1) else gl X N i k) ∧ wr.heap[D]? = some (.cells #[.int .i64 (ageTo X k (begA X N k) j)] 91 (0, 0)) ∧ Fr (fun i => i = G ∨ i = D) W0 wr) (fun i _ => X.recs.length - (intOf i).toNat)
        case atStart => exact ⟨0, by omega, rfl, vs, HVS.out, by simpa using HROW2.out, HND2.out, HF02.out⟩
        case round =>
          clear c5 HROW2 HND2 HF02
          clear W2
          clear HVS HROW HF
          clear vs
          obtain ⟨j, hj, rfl, vs, hvs, hrow, hnd, hF⟩ := hrel
          have HVS := Lib.hid hvs
          have HROW := Lib.hid hrow
          have HND := Lib.hid hnd
          have HF := Lib.hid hF
          clear hvs hrow hnd hF
          by_cases hlj : j < X.recs.length
          · obtain ⟨rb, ro, qb', cb, rfl, r1', r2', r3', r4', r5'⟩ := HRA.out j hlj
            have hEwr := HEW.out wr HF.out
            have r1 := hEwr.cell r1'
            have r2 := hEwr.cell r2'
            have r3 := hEwr.cell r3'
            have r4 := hEwr.cell r4'
            obtain ⟨hkp, hpe⟩ := plays_eq (wk := k) HX.out hlj (by omega)
            obtain ⟨qb, qo, rfl, hpc'⟩ := r5'.at k hkp
            have hqbl := lt_of_cell hpc'
            have hpc := hEwr.cell hpc'
            have hpb := playsW_bd HX.out k j
            obtain ⟨pn, hpn⟩ := Int.eq_ofNat_of_zero_le hpb.1
            rw [← hpe, hpn] at hpc
            rw [hpn] at hpb
            have hag := ageTo_bd HX.out k (begA_bd HX.out N k) j
            have hgrd : grd X N k j = grindW X (ageTo X k (begA X N k) j) pn := by unfold grd; rw [hpn, Int.toNat_natCast]
            have hagn : ageTo X k (begA X N k) (j + 1) = ageTo X k (begA X N k) j + pn := by rw [← hpn]; rfl
            obtain ⟨ag, hagg⟩ : ∃ ag, ag = ageTo X k (begA X N k) j := ⟨_, rfl⟩
            rw [← hagg] at hag hgrd hagn
            obtain ⟨gr, hgr⟩ : ∃ gr, gr = grindW X ag pn := ⟨_, rfl⟩
            rw [← hgr] at hgrd
            obtain ⟨rl, hrl⟩ : ∃ rl, rl = X.recs[j].plays.length := ⟨_, rfl⟩
            rw [← hrl] at r4 hkp
            have hjv : j < vs.length := by have := HVS.out; omega
            have hcj : wr.cell? ⟨G, j, none⟩ = some vs[j] := by rw [cell_of_heap HROW.out.arr]; simp [hjv]
            have hrj := HROW.out.row j hjv
            rw [if_neg (Nat.lt_irrefl _), gl_len] at hrj
            obtain ⟨vj, hvj⟩ : ∃ vj, vj = vs[j] := ⟨_, rfl⟩
            rw [← hvj] at hcj hrj
            have HRJ := Lib.hid hrj
            have HVJ := Lib.hid hvj
            have HGR := Lib.hid hgr
            have HGRD := Lib.hid hgrd
            have HAGN := Lib.hid hagn
            have HAG := Lib.hid hagg
            have HND2 : Hid (wr.heap[D]? = some (.cells #[.int .i64 ag] 91 (0, 0))) := Lib.hid (by rw [hagg]; exact HND.out)
            have hbx := HBX.out wr HF.out
            have hDwr := (Array.getElem?_eq_some_iff.1 HND.out).1
            have hW0wr := HF.out.size
            clear r1' r2' r3' r4' r5' hpc' hpe hpn hgr hgrd hagn hagg hrl hvj hrj HND
            have h5 : wr.cell? ⟨w.heap.size, 5, none⟩ = some (.slice (some ⟨rb, ro, none⟩) X.recs.length d) := (cell_of_heap hbx 5).trans rfl
            go_upto_region 11 with (fail)
            obtain ⟨H5, hH5⟩ : ∃ H5, H5 = wr.heap.size := ⟨_, rfl⟩
            have hn5 := heap_new wr (.cells #[.int .i64 X.recs[j].worn, .int .i64 X.recs[j].limit, .int .i64 X.recs[j].price, .slice (some ⟨qb, qo, none⟩) rl cb] 54)
            obtain ⟨W5, hW5⟩ : ∃ W5, W5 = wr.alloc (.cells #[.int .i64 X.recs[j].worn, .int .i64 X.recs[j].limit, .int .i64 X.recs[j].price, .slice (some ⟨qb, qo, none⟩) rl cb] 54) := ⟨_, rfl⟩
            have hE5 : Ext wr W5 := by rw [hW5]; exact Ext.alloc (Ext.refl _) _
            have hs5 : W5.heap.size = H5 + 1 := by rw [hW5, hH5]; simp only [size_alloc]
            rw [← hW5, ← hH5] at hn5
            rw [← hW5, ← hH5]
            have hH5D : H5 ≠ D := by omega
            have hH5G : H5 ≠ G := by omega
            have hS : ∀ z, Fr (fun i => i = D ∨ vj.ownBlock = some i) W5 z → z.cell? ⟨G, j, none⟩ = some vj ∧ (z.cell? ⟨w.heap.size, 0, none⟩ = some (.int .i64 X.weeks) ∧ z.cell? ⟨w.heap.size, 1, none⟩ = some (.int .i64 X.price) ∧ z.cell? ⟨w.heap.size, 2, none⟩ = some (.int .i64 X.age) ∧ z.cell? ⟨w.heap.size, 3, none⟩ = some (.int .i64 X.step) ∧ z.cell? ⟨w.heap.size, 4, none⟩ = some (.slice p X.rough.length c) ∧ z.cell? ⟨w.heap.size, 5, none⟩ = some (.slice (some ⟨rb, ro, none⟩) X.recs.length d)) ∧ z.cell? ⟨H5, 3, none⟩ = some (.slice (some ⟨qb, qo, none⟩) rl cb) ∧ z.cell? ⟨qb, qo + k, none⟩ = some (.int .i64 pn) := fun z hz =>
              have hlo : ∀ i, vj.ownBlock = some i → W0.heap.size ≤ i ∧ i < H5 := fun i hi => by have := HRJ.out.lt i hi; omega
              have hq : ∀ {i o : Nat} {y : Value}, wr.cell? ⟨i, o, none⟩ = some y → i ≠ D → i < W0.heap.size → z.cell? ⟨i, o, none⟩ = some y := fun h hn hl => hz.cell (hE5.cell h) (fun e => e.elim hn (fun e => by have := (hlo _ e).1; omega))
              ⟨hq hcj (by omega) (by omega),
                ⟨hq ((cell_of_heap hbx 0).trans rfl) (by omega) (by omega), hq ((cell_of_heap hbx 1).trans rfl) (by omega) (by omega), hq ((cell_of_heap hbx 2).trans rfl) (by omega) (by omega), hq ((cell_of_heap hbx 3).trans rfl) (by omega) (by omega), hq ((cell_of_heap hbx 4).trans rfl) (by omega) (by omega), hq ((cell_of_heap hbx 5).trans rfl) (by omega) (by omega)⟩,
                hz.cell ((cell_of_heap hn5 3).trans rfl) (fun e => e.elim hH5D (fun e => by have := (hlo _ e).2; omega)), hq hpc (by omega) (by omega)⟩
            have hnd5 : W5.heap[D]? = some (.cells #[.int .i64 ag] 91 (0, 0)) := (Below.block hE5 D hDwr).trans HND2.out
            have hEw5 : Ext w W5 := hEwr.trans hE5
            have HPL : Hid (∀ z, Ext W5 z → Calls Try.prog 89 #[.pointer (some ⟨D, 0, none⟩), .agg #[.int .i64 X.weeks, .int .i64 X.price, .int .i64 X.age, .int .i64 X.step, .slice p X.rough.length c, .slice (some ⟨rb, ro, none⟩) X.recs.length d], .int .i64 pn] z (PlayPost X D 0 #[.int .i64 ag] 91 ag pn z)) := Lib.hid fun z hz =>
              play03 _ X D 0 _ _ ag pn z ⟨_, _, _, _, rfl, HGA.out.ext (hEw5.trans hz), HRA.out.ext (hEw5.trans hz)⟩ HX.out ((Below.block hz D (by have := hE5.size; omega)).trans hnd5) rfl hag.1 (by omega) (by omega) (fun w' hw' => by
                have h1 : Ext w w' := Fr.ext (hEw5.trans hz) hw' (fun i hi => by omega)
                exact ⟨_, _, _, _, rfl, HGA.out.ext h1, HRA.out.ext h1⟩)
            have HSS := Lib.hid hS
            have HE5 := Lib.hid hE5
            have HRJ5 := Lib.hid (ownsRow_ext HRJ.out hE5)
            have hS0 := hS _ (Fr.refl (fun i => i = D ∨ vj.ownBlock = some i) W5).drew
            have HS0 := Lib.hid hS0
            have hm1 : k + 1 ≤ maxLen := by unfold maxLen; omega
            have hm2 : (k + 1) * 8 ≤ 140737488355328 := by omega
            have HS5 := Lib.hid hs5
            have HH5 := Lib.hid hH5
            clear hW5 hn5 hE5 r1 r2 r3 r4 hpc hcj hbx hS hnd5 hEw5 hEwr hS0 h5 hs5 hH5
            refine wp_region_heldT (fun z => z.cell? ⟨G, j, none⟩ = some vj ∧ (z.cell? ⟨w.heap.size, 0, none⟩ = some (.int .i64 X.weeks) ∧ z.cell? ⟨w.heap.size, 1, none⟩ = some (.int .i64 X.price) ∧ z.cell? ⟨w.heap.size, 2, none⟩ = some (.int .i64 X.age) ∧ z.cell? ⟨w.heap.size, 3, none⟩ = some (.int .i64 X.step) ∧ z.cell? ⟨w.heap.size, 4, none⟩ = some (.slice p X.rough.length c) ∧ z.cell? ⟨w.heap.size, 5, none⟩ = some (.slice (some ⟨rb, ro, none⟩) X.recs.length d)) ∧ z.cell? ⟨H5, 3, none⟩ = some (.slice (some ⟨qb, qo, none⟩) rl cb) ∧ z.cell? ⟨qb, qo + k, none⟩ = some (.int .i64 pn)) 15
              [(true, 0), (true, 1), (true, 2), (true, 3), (true, 4), (true, 5), (true, 6), (true, 7), (true, 8), (true, 9), (true, 10), (true, 11), (false, 12), (false, 13), (false, 14)] (by kernel_rfl) (by kernel_rfl) HS0.out ?_
            simp only [List.map_cons, List.map_nil, List.getElem?_cons_zero, List.getElem?_cons_succ]
            repeat (refine wpHL_take (v := ?_) (by rfl) ?_ (fun _ _ _ h => h) ?_; rotate_left 1; (intro z hz; (try dsimp only at hz); go_simp; (try with_reducible rfl)); simp only [Act.put, List.setIfInBounds_toArray, List.set_cons_zero, List.set_cons_succ])
            refine wpHL_step (fun K hK => ?_)
            go_simp
            refine (HPL.out _ (by repeat (first | exact Ext.refl _ | refine Ext.drew ?_))).mono ?_
            rintro e w6 ⟨rfl, hnd6, hF6⟩
            rw [← HGR.out]
            simp only [List.setIfInBounds_toArray, List.set_cons_zero] at hnd6
            have hF65 : Fr (fun i => i = D) W5 w6 := (Ext.fr (Ext.refl W5).drew _).trans hF6
            have HF65 := Lib.hid hF65
            have HND6 := Lib.hid hnd6
            clear hF6
            refine hK.out _ _ (HSS.out w6 (hF65.mono fun i h => .inl h)) ?_
            clear hK K hnd6 hF65
            try simp only [Act.put, List.setIfInBounds_toArray, List.set_cons_zero, List.set_cons_succ]
            refine wpHL_step (fun K hK => ?_)
            go_simp
            refine hK.out _ _ (HSS.out _ ((HF65.out.mono fun i h => .inl h).alloc _)) ?_
            clear hK K
            try simp only [Act.put, List.setIfInBounds_toArray, List.set_cons_zero, List.set_cons_succ]
            refine wpHL_step (fun K hK => ?_)
            have hr6 : w6.ownsRow W0.heap.size 3 1 vj k (intVs (gl X N j k)) := ownsRow_fr HRJ5.out HF65.out (fun b hb e => by have := HRJ5.out.lt b hb; have e2 : b = D := e; omega)
            have HR6 := Lib.hid hr6
            have h56 := HF65.out.size
            clear hr6
            refine step_append_lies _ rfl (.tmp 47) (.tmp 55) 22 rfl W0.heap.size 3 i0 (.int .i64 0) 1 8 Try.underlying22 hi hz0 hz1 hz2 rfl (by decide) _ k (intVs (gl X N j k)) rfl (ownsRow_ext HR6.out (by repeat (first | exact Ext.refl _ | refine Ext.alloc ?_ _ | refine Ext.drew ?_))) ⟨_, 0, none⟩ 1 1 [.int .i64 gr] rfl rfl ?_ (one_int _) (by decide) hm1 hm2 ?_ _ rfl ?_
            · exact hnewsE (by repeat (first | exact Ext.refl _ | refine Ext.drew ?_)) rfl
            · have := HS5.out
              have := HH5.out
              show _ ≤ (w6.alloc _).heap.size
              rw [size_alloc]
              omega
            intro g cap w8 hown hgrn hat hlt8
            have hFa : Fr (fun i => i = D ∨ vj.ownBlock = some i) W5 w8 := ((HF65.out.mono fun i h => .inl h).alloc _).trans ((grown_fr hgrn).mono fun i h => .inr h)
            refine hK.out _ _ (HSS.out w8 hFa) ?_
            clear hK K
            try simp only [Act.put, List.setIfInBounds_toArray, List.set_cons_zero, List.set_cons_succ]
            have hrow6 := (HROW.out.fr ((HE5.out.fr (fun i => i = D)).trans HF65.out) (by omega) (fun b hb _ e => by omega)).fr (E := fun _ => False) (((Fr.refl _ _).alloc (.cells #[.int .i64 gr] 3)) : Fr (fun _ => False) w6 _) (fun h => h) (fun _ _ _ h => h)
            have hstep := RowsG.step (x := gr) (i := j) (g := g) (cap := cap) hrow6 hjv (by omega) (by rw [if_neg (Nat.lt_irrefl _), gl_len]; exact hown) (by rw [← HVJ.out]; exact hgrn) (by rw [← HVJ.out]; exact hat)
            rw [if_neg (Nat.lt_irrefl _), gl_len] at hstep
            rw [show gr = grd X N k j from HGRD.out.symm] at hstep
            have hj0 := glj_step X N k j
            rw [if_neg (Nat.lt_irrefl _)] at hj0
            rw [hj0] at hstep
            have HSTEP := Lib.hid hstep
            have hvb : ∀ b, vj.ownBlock = some b → W0.heap.size ≤ b := fun b hb => (HRJ5.out.lt b hb).1
            have hnd8 : w8.heap[D]? = some (.cells #[.int .i64 (ag + pn)] 91 (0, 0)) := by
              refine (((grown_fr hgrn).block D ?_ ?_).trans (heap_old _ HND6.out))
              · rw [size_alloc]; have := (Array.getElem?_eq_some_iff.1 HND6.out).1; omega
              · intro e; have := hvb D e; omega
            have HND8 := Lib.hid hnd8
            have hFw : Fr (fun i => i = G ∨ i = D) W0 w8 := Fr.low (((HF.out.mono fun i h => .inl h).trans (HE5.out.fr _)).trans (hFa.mono fun i h => h.elim (fun h => .inl (.inr h)) (fun h => .inr (hvb i h))))
            have HFW := Lib.hid hFw
            have harr : w8.heap[G]? = some (.cells vs.toArray 22 (0, 0)) := (hFa.block G (by have := HE5.out.size; omega) (fun e => e.elim (by omega) (fun e => by have := hvb G e; omega))).trans ((Below.block HE5.out G (by omega)).trans HROW.out.arr)
            have a0 : w8.cell? ⟨G, j, none⟩ = some vj := (HSS.out w8 hFa).1
            have a1 := cell_frozen harr j
            clear hown hgrn hat hFa hrow6 hstep hnd8 hFw harr hvb hj0
            refine wpHL_nil ?_
            simp only [List.drop_succ_cons, List.drop_zero]
            go_wp2
            go_roundw
            case rel =>
              refine ⟨j + 1, by omega, by go_num, _, by rw [List.length_set]; exact HVS.out, HSTEP.out, ?_, HFW.out.set (.inl rfl)⟩
              rw [HAGN.out]
              exact heap_set_ne (by omega) HND8.out
            case measure => simp [intOf]; omega
          · obtain rfl : j = X.recs.length := by omega
            go_wp2
            go_roundw
            case rel =>
              refine ⟨k + 1, by omega, by go_num, vs, HVS.out, ⟨HROW.out.arr, fun i hi => ?_, HROW.out.apart⟩, HND.out, HF.out⟩
              have := HROW.out.row i hi
              rw [if_pos (by have := HVS.out; omega)] at this
              exact this
            case measure => simp [intOf]; omega
      · have hb' : N.testBit k = false := by simpa using hb
        simp only [hb'] at HAS
        have HB := Lib.hid hb
        clear hb
        go_upto_region 8 with (go_at_call 77; refine (HAS.out _).mono ?_; rintro e w' ⟨rfl, m, rfl⟩)
        obtain ⟨W2, hW2⟩ : ∃ W2, W2 = wr.drewN m := ⟨_, rfl⟩
        rw [← hW2]
        have hF2 : Fr (fun i => i = D) wr W2 := by rw [hW2]; exact (Fr.refl (fun i => i = D) wr).drewN m
        have hnd2 : W2.heap[D]? = some (.cells #[.int .i64 (begA X N k)] 91 (0, 0)) := by rw [hW2, begA, if_neg HB.out]; exact HND.out
        have HND2 := Lib.hid hnd2
        have HF2 := Lib.hid hF2
        clear hW2 hF2 hnd2 hb'
        have hrow2 := HROW.out.fr HF2.out (by omega) (fun b hb _ e => by omega)
        have HROW2 := Lib.hid hrow2
        have hF02 : Fr (fun i => i = G ∨ i = D) W0 W2 := HF.out.trans (HF2.out.mono fun i h => .inr h)
        have HF02 := Lib.hid hF02
        have c5 : W2.cell? ⟨w.heap.size, 5, none⟩ = some (.slice q X.recs.length d) := (cell_of_heap (HBX.out W2 hF02) 5).trans rfl
        clear hrow2 hF02 HF2 HND
        go_wp2
        go_loopw [37] (fun i wr => ∃ j : Nat, j ≤ X.recs.length ∧ i = .int .i64 j ∧ ∃ vs, vs.length = X.recs.length ∧ RowsG wr W0.heap.size G vs (fun i => if i < j then gl X N i (k + 1) else gl X N i k) ∧ wr.heap[D]? = some (.cells #[.int .i64 (ageTo X k (begA X N k) j)] 91 (0, 0)) ∧ Fr (fun i => i = G ∨ i = D) W0 wr) (fun i _ => X.recs.length - (intOf i).toNat)
        case atStart => exact ⟨0, by omega, rfl, vs, HVS.out, by simpa using HROW2.out, HND2.out, HF02.out⟩
        case round =>
          clear c5 HROW2 HND2 HF02
          clear W2
          clear HVS HROW HF
          clear vs
          obtain ⟨j, hj, rfl, vs, hvs, hrow, hnd, hF⟩ := hrel
          have HVS := Lib.hid hvs
          have HROW := Lib.hid hrow
          have HND := Lib.hid hnd
          have HF := Lib.hid hF
          clear hvs hrow hnd hF
          by_cases hlj : j < X.recs.length
          · obtain ⟨rb, ro, qb', cb, rfl, r1', r2', r3', r4', r5'⟩ := HRA.out j hlj
            have hEwr := HEW.out wr HF.out
            have r1 := hEwr.cell r1'
            have r2 := hEwr.cell r2'
            have r3 := hEwr.cell r3'
            have r4 := hEwr.cell r4'
            obtain ⟨hkp, hpe⟩ := plays_eq (wk := k) HX.out hlj (by omega)
            obtain ⟨qb, qo, rfl, hpc'⟩ := r5'.at k hkp
            have hqbl := lt_of_cell hpc'
            have hpc := hEwr.cell hpc'
            have hpb := playsW_bd HX.out k j
            obtain ⟨pn, hpn⟩ := Int.eq_ofNat_of_zero_le hpb.1
            rw [← hpe, hpn] at hpc
            rw [hpn] at hpb
            have hag := ageTo_bd HX.out k (begA_bd HX.out N k) j
            have hgrd : grd X N k j = grindW X (ageTo X k (begA X N k) j) pn := by unfold grd; rw [hpn, Int.toNat_natCast]
            have hagn : ageTo X k (begA X N k) (j + 1) = ageTo X k (begA X N k) j + pn := by rw [← hpn]; rfl
            obtain ⟨ag, hagg⟩ : ∃ ag, ag = ageTo X k (begA X N k) j := ⟨_, rfl⟩
            rw [← hagg] at hag hgrd hagn
            obtain ⟨gr, hgr⟩ : ∃ gr, gr = grindW X ag pn := ⟨_, rfl⟩
            rw [← hgr] at hgrd
            obtain ⟨rl, hrl⟩ : ∃ rl, rl = X.recs[j].plays.length := ⟨_, rfl⟩
            rw [← hrl] at r4 hkp
            have hjv : j < vs.length := by have := HVS.out; omega
            have hcj : wr.cell? ⟨G, j, none⟩ = some vs[j] := by rw [cell_of_heap HROW.out.arr]; simp [hjv]
            have hrj := HROW.out.row j hjv
            rw [if_neg (Nat.lt_irrefl _), gl_len] at hrj
            obtain ⟨vj, hvj⟩ : ∃ vj, vj = vs[j] := ⟨_, rfl⟩
            rw [← hvj] at hcj hrj
            have HRJ := Lib.hid hrj
            have HVJ := Lib.hid hvj
            have HGR := Lib.hid hgr
            have HGRD := Lib.hid hgrd
            have HAGN := Lib.hid hagn
            have HAG := Lib.hid hagg
            have HND2 : Hid (wr.heap[D]? = some (.cells #[.int .i64 ag] 91 (0, 0))) := Lib.hid (by rw [hagg]; exact HND.out)
            have hbx := HBX.out wr HF.out
            have hDwr := (Array.getElem?_eq_some_iff.1 HND.out).1
            have hW0wr := HF.out.size
            clear r1' r2' r3' r4' r5' hpc' hpe hpn hgr hgrd hagn hagg hrl hvj hrj HND
            have h5 : wr.cell? ⟨w.heap.size, 5, none⟩ = some (.slice (some ⟨rb, ro, none⟩) X.recs.length d) := (cell_of_heap hbx 5).trans rfl
            go_upto_region 11 with (fail)
            obtain ⟨H5, hH5⟩ : ∃ H5, H5 = wr.heap.size := ⟨_, rfl⟩
            have hn5 := heap_new wr (.cells #[.int .i64 X.recs[j].worn, .int .i64 X.recs[j].limit, .int .i64 X.recs[j].price, .slice (some ⟨qb, qo, none⟩) rl cb] 54)
            obtain ⟨W5, hW5⟩ : ∃ W5, W5 = wr.alloc (.cells #[.int .i64 X.recs[j].worn, .int .i64 X.recs[j].limit, .int .i64 X.recs[j].price, .slice (some ⟨qb, qo, none⟩) rl cb] 54) := ⟨_, rfl⟩
            have hE5 : Ext wr W5 := by rw [hW5]; exact Ext.alloc (Ext.refl _) _
            have hs5 : W5.heap.size = H5 + 1 := by rw [hW5, hH5]; simp only [size_alloc]
            rw [← hW5, ← hH5] at hn5
            rw [← hW5, ← hH5]
            have hH5D : H5 ≠ D := by omega
            have hH5G : H5 ≠ G := by omega
            have hS : ∀ z, Fr (fun i => i = D ∨ vj.ownBlock = some i) W5 z → z.cell? ⟨G, j, none⟩ = some vj ∧ (z.cell? ⟨w.heap.size, 0, none⟩ = some (.int .i64 X.weeks) ∧ z.cell? ⟨w.heap.size, 1, none⟩ = some (.int .i64 X.price) ∧ z.cell? ⟨w.heap.size, 2, none⟩ = some (.int .i64 X.age) ∧ z.cell? ⟨w.heap.size, 3, none⟩ = some (.int .i64 X.step) ∧ z.cell? ⟨w.heap.size, 4, none⟩ = some (.slice p X.rough.length c) ∧ z.cell? ⟨w.heap.size, 5, none⟩ = some (.slice (some ⟨rb, ro, none⟩) X.recs.length d)) ∧ z.cell? ⟨H5, 3, none⟩ = some (.slice (some ⟨qb, qo, none⟩) rl cb) ∧ z.cell? ⟨qb, qo + k, none⟩ = some (.int .i64 pn) := fun z hz =>
              have hlo : ∀ i, vj.ownBlock = some i → W0.heap.size ≤ i ∧ i < H5 := fun i hi => by have := HRJ.out.lt i hi; omega
              have hq : ∀ {i o : Nat} {y : Value}, wr.cell? ⟨i, o, none⟩ = some y → i ≠ D → i < W0.heap.size → z.cell? ⟨i, o, none⟩ = some y := fun h hn hl => hz.cell (hE5.cell h) (fun e => e.elim hn (fun e => by have := (hlo _ e).1; omega))
              ⟨hq hcj (by omega) (by omega),
                ⟨hq ((cell_of_heap hbx 0).trans rfl) (by omega) (by omega), hq ((cell_of_heap hbx 1).trans rfl) (by omega) (by omega), hq ((cell_of_heap hbx 2).trans rfl) (by omega) (by omega), hq ((cell_of_heap hbx 3).trans rfl) (by omega) (by omega), hq ((cell_of_heap hbx 4).trans rfl) (by omega) (by omega), hq ((cell_of_heap hbx 5).trans rfl) (by omega) (by omega)⟩,
                hz.cell ((cell_of_heap hn5 3).trans rfl) (fun e => e.elim hH5D (fun e => by have := (hlo _ e).2; omega)), hq hpc (by omega) (by omega)⟩
            have hnd5 : W5.heap[D]? = some (.cells #[.int .i64 ag] 91 (0, 0)) := (Below.block hE5 D hDwr).trans HND2.out
            have hEw5 : Ext w W5 := hEwr.trans hE5
            have HPL : Hid (∀ z, Ext W5 z → Calls Try.prog 89 #[.pointer (some ⟨D, 0, none⟩), .agg #[.int .i64 X.weeks, .int .i64 X.price, .int .i64 X.age, .int .i64 X.step, .slice p X.rough.length c, .slice (some ⟨rb, ro, none⟩) X.recs.length d], .int .i64 pn] z (PlayPost X D 0 #[.int .i64 ag] 91 ag pn z)) := Lib.hid fun z hz =>
              play03 _ X D 0 _ _ ag pn z ⟨_, _, _, _, rfl, HGA.out.ext (hEw5.trans hz), HRA.out.ext (hEw5.trans hz)⟩ HX.out ((Below.block hz D (by have := hE5.size; omega)).trans hnd5) rfl hag.1 (by omega) (by omega) (fun w' hw' => by
                have h1 : Ext w w' := Fr.ext (hEw5.trans hz) hw' (fun i hi => by omega)
                exact ⟨_, _, _, _, rfl, HGA.out.ext h1, HRA.out.ext h1⟩)
            have HSS := Lib.hid hS
            have HE5 := Lib.hid hE5
            have HRJ5 := Lib.hid (ownsRow_ext HRJ.out hE5)
            have hS0 := hS _ (Fr.refl (fun i => i = D ∨ vj.ownBlock = some i) W5).drew
            have HS0 := Lib.hid hS0
            have hm1 : k + 1 ≤ maxLen := by unfold maxLen; omega
            have hm2 : (k + 1) * 8 ≤ 140737488355328 := by omega
            have HS5 := Lib.hid hs5
            have HH5 := Lib.hid hH5
            clear hW5 hn5 hE5 r1 r2 r3 r4 hpc hcj hbx hS hnd5 hEw5 hEwr hS0 h5 hs5 hH5
            refine wp_region_heldT (fun z => z.cell? ⟨G, j, none⟩ = some vj ∧ (z.cell? ⟨w.heap.size, 0, none⟩ = some (.int .i64 X.weeks) ∧ z.cell? ⟨w.heap.size, 1, none⟩ = some (.int .i64 X.price) ∧ z.cell? ⟨w.heap.size, 2, none⟩ = some (.int .i64 X.age) ∧ z.cell? ⟨w.heap.size, 3, none⟩ = some (.int .i64 X.step) ∧ z.cell? ⟨w.heap.size, 4, none⟩ = some (.slice p X.rough.length c) ∧ z.cell? ⟨w.heap.size, 5, none⟩ = some (.slice (some ⟨rb, ro, none⟩) X.recs.length d)) ∧ z.cell? ⟨H5, 3, none⟩ = some (.slice (some ⟨qb, qo, none⟩) rl cb) ∧ z.cell? ⟨qb, qo + k, none⟩ = some (.int .i64 pn)) 15
              [(true, 0), (true, 1), (true, 2), (true, 3), (true, 4), (true, 5), (true, 6), (true, 7), (true, 8), (true, 9), (true, 10), (true, 11), (false, 12), (false, 13), (false, 14)] (by kernel_rfl) (by kernel_rfl) HS0.out ?_
            simp only [List.map_cons, List.map_nil, List.getElem?_cons_zero, List.getElem?_cons_succ]
            repeat (refine wpHL_take (v := ?_) (by rfl) ?_ (fun _ _ _ h => h) ?_; rotate_left 1; (intro z hz; (try dsimp only at hz); go_simp; (try with_reducible rfl)); simp only [Act.put, List.setIfInBounds_toArray, List.set_cons_zero, List.set_cons_succ])
            refine wpHL_step (fun K hK => ?_)
            go_simp
            refine (HPL.out _ (by repeat (first | exact Ext.refl _ | refine Ext.drew ?_))).mono ?_
            rintro e w6 ⟨rfl, hnd6, hF6⟩
            rw [← HGR.out]
            simp only [List.setIfInBounds_toArray, List.set_cons_zero] at hnd6
            have hF65 : Fr (fun i => i = D) W5 w6 := (Ext.fr (Ext.refl W5).drew _).trans hF6
            have HF65 := Lib.hid hF65
            have HND6 := Lib.hid hnd6
            clear hF6
            refine hK.out _ _ (HSS.out w6 (hF65.mono fun i h => .inl h)) ?_
            clear hK K hnd6 hF65
            try simp only [Act.put, List.setIfInBounds_toArray, List.set_cons_zero, List.set_cons_succ]
            refine wpHL_step (fun K hK => ?_)
            go_simp
            refine hK.out _ _ (HSS.out _ ((HF65.out.mono fun i h => .inl h).alloc _)) ?_
            clear hK K
            try simp only [Act.put, List.setIfInBounds_toArray, List.set_cons_zero, List.set_cons_succ]
            refine wpHL_step (fun K hK => ?_)
            have hr6 : w6.ownsRow W0.heap.size 3 1 vj k (intVs (gl X N j k)) := ownsRow_fr HRJ5.out HF65.out (fun b hb e => by have := HRJ5.out.lt b hb; have e2 : b = D := e; omega)
            have HR6 := Lib.hid hr6
            have h56 := HF65.out.size
            clear hr6
            refine step_append_lies _ rfl (.tmp 47) (.tmp 55) 22 rfl W0.heap.size 3 i0 (.int .i64 0) 1 8 Try.underlying22 hi hz0 hz1 hz2 rfl (by decide) _ k (intVs (gl X N j k)) rfl (ownsRow_ext HR6.out (by repeat (first | exact Ext.refl _ | refine Ext.alloc ?_ _ | refine Ext.drew ?_))) ⟨_, 0, none⟩ 1 1 [.int .i64 gr] rfl rfl ?_ (one_int _) (by decide) hm1 hm2 ?_ _ rfl ?_
            · exact hnewsE (by repeat (first | exact Ext.refl _ | refine Ext.drew ?_)) rfl
            · have := HS5.out
              have := HH5.out
              show _ ≤ (w6.alloc _).heap.size
              rw [size_alloc]
              omega
            intro g cap w8 hown hgrn hat hlt8
            have hFa : Fr (fun i => i = D ∨ vj.ownBlock = some i) W5 w8 := ((HF65.out.mono fun i h => .inl h).alloc _).trans ((grown_fr hgrn).mono fun i h => .inr h)
            refine hK.out _ _ (HSS.out w8 hFa) ?_
            clear hK K
            try simp only [Act.put, List.setIfInBounds_toArray, List.set_cons_zero, List.set_cons_succ]
            have hrow6 := (HROW.out.fr ((HE5.out.fr (fun i => i = D)).trans HF65.out) (by omega) (fun b hb _ e => by omega)).fr (E := fun _ => False) (((Fr.refl _ _).alloc (.cells #[.int .i64 gr] 3)) : Fr (fun _ => False) w6 _) (fun h => h) (fun _ _ _ h => h)
            have hstep := RowsG.step (x := gr) (i := j) (g := g) (cap := cap) hrow6 hjv (by omega) (by rw [if_neg (Nat.lt_irrefl _), gl_len]; exact hown) (by rw [← HVJ.out]; exact hgrn) (by rw [← HVJ.out]; exact hat)
            rw [if_neg (Nat.lt_irrefl _), gl_len] at hstep
            rw [show gr = grd X N k j from HGRD.out.symm] at hstep
            have hj0 := glj_step X N k j
            rw [if_neg (Nat.lt_irrefl _)] at hj0
            rw [hj0] at hstep
            have HSTEP := Lib.hid hstep
            have hvb : ∀ b, vj.ownBlock = some b → W0.heap.size ≤ b := fun b hb => (HRJ5.out.lt b hb).1
            have hnd8 : w8.heap[D]? = some (.cells #[.int .i64 (ag + pn)] 91 (0, 0)) := by
              refine (((grown_fr hgrn).block D ?_ ?_).trans (heap_old _ HND6.out))
              · rw [size_alloc]; have := (Array.getElem?_eq_some_iff.1 HND6.out).1; omega
              · intro e; have := hvb D e; omega
            have HND8 := Lib.hid hnd8
            have hFw : Fr (fun i => i = G ∨ i = D) W0 w8 := Fr.low (((HF.out.mono fun i h => .inl h).trans (HE5.out.fr _)).trans (hFa.mono fun i h => h.elim (fun h => .inl (.inr h)) (fun h => .inr (hvb i h))))
            have HFW := Lib.hid hFw
            have harr : w8.heap[G]? = some (.cells vs.toArray 22 (0, 0)) := (hFa.block G (by have := HE5.out.size; omega) (fun e => e.elim (by omega) (fun e => by have := hvb G e; omega))).trans ((Below.block HE5.out G (by omega)).trans HROW.out.arr)
            have a0 : w8.cell? ⟨G, j, none⟩ = some vj := (HSS.out w8 hFa).1
            have a1 := cell_frozen harr j
            clear hown hgrn hat hFa hrow6 hstep hnd8 hFw harr hvb hj0
            refine wpHL_nil ?_
            simp only [List.drop_succ_cons, List.drop_zero]
            go_wp2
            go_roundw
            case rel =>
              refine ⟨j + 1, by omega, by go_num, _, by rw [List.length_set]; exact HVS.out, HSTEP.out, ?_, HFW.out.set (.inl rfl)⟩
              rw [HAGN.out]
              exact heap_set_ne (by omega) HND8.out
            case measure => simp [intOf]; omega
          · obtain rfl : j = X.recs.length := by omega
            go_wp2
            go_roundw
            case rel =>
              refine ⟨k + 1, by omega, by go_num, vs, HVS.out, ⟨HROW.out.arr, fun i hi => ?_, HROW.out.apart⟩, HND.out, HF.out⟩
              have := HROW.out.row i hi
              rw [if_pos (by have := HVS.out; omega)] at this
              exact this
            case measure => simp [intOf]; omega
    · obtain rfl : long = k := by omega
      have hbx := HBX.out wr HF.out
      have h5 : wr.cell? ⟨w.heap.size, 5, none⟩ = some (.slice q X.recs.length d) := (cell_of_heap hbx 5).trans rfl
      have hch := HCH.out wr HF.out
      obtain ⟨C, hC⟩ : ∃ C, C = wr.heap.size := ⟨_, rfl⟩
      have hW0wr := HF.out.size
      have hCW0 : W0.heap.size ≤ C := by omega
      have HBX1 := Lib.hid hbx
      have HCH1 := Lib.hid hch
      have HEW1 := Lib.hid (HEW.out wr HF.out)
      clear hbx hch HND
      go_upto_region 15 with (fail)
      obtain ⟨W9, hW9⟩ : ∃ W9, W9 = wr.alloc (.cells #[.int .u64 N, .slice none 0 0] 105) := ⟨_, rfl⟩
      have hnC := heap_new wr (.cells #[.int .u64 N, .slice none 0 0] 105)
      have hE9 : Ext wr W9 := by rw [hW9]; exact Ext.alloc (Ext.refl _) _
      have hs9 : W9.heap.size = C + 1 := by rw [hW9, hC]; simp only [size_alloc]
      rw [← hW9, ← hC] at hnC
      rw [← hW9, ← hC]
      have hbl := (Array.getElem?_eq_some_iff.1 HBX1.out).1
      have hcl := (Array.getElem?_eq_some_iff.1 HCH1.out).1
      have HBX9 : Hid (∀ z, Fr (fun i => i = C) W9 z → z.heap[w.heap.size]? = some (bxO X p c q d)) := Lib.hid fun z hz => (hz.block _ (by omega) (by omega)).trans ((Below.block hE9 _ hbl).trans HBX1.out)
      have HCH9 : Hid (∀ z, Fr (fun i => i = C) W9 z → z.heap[w.heap.size + 1]? = some (.cells #[.int .u64 0, .slice none 0 0] 105 (0, 0))) := Lib.hid fun z hz => (hz.block _ (by omega) (by omega)).trans ((Below.block hE9 _ hcl).trans HCH1.out)
      have HEW9 : Hid (∀ z, Fr (fun i => i = C) W9 z → Ext w z) := Lib.hid fun z hz => Fr.ext (HEW1.out.trans hE9) hz (fun i hi => by have := HEW1.out.size; omega)
      have hrow9 := HROW.out.fr (hE9.fr (fun _ => False)) (fun h => h) (fun _ _ _ h => h)
      have HROW9 : Hid (∀ z, Fr (fun i => i = C) W9 z → RowsG z W0.heap.size G vs (fun i => gl X N i long)) := Lib.hid fun z hz => by
        have hGw := (Array.getElem?_eq_some_iff.1 HROW.out.arr).1
        refine ⟨(hz.block G (by omega) (by omega)).trans hrow9.arr, fun i hi => ownsRow_fr (hrow9.row i hi) hz (fun b hb e => ?_), hrow9.apart⟩
        have h1 := (HROW.out.row i hi).lt b hb
        have e2 : b = C := e
        omega
      have HNC := Lib.hid hnC
      have HS9 := Lib.hid hs9
      have h59 := (cell_of_heap (HBX9.out W9 (Fr.refl _ _)) 5).trans (rfl : _ = some (Value.slice q X.recs.length d))
      obtain ⟨i1, hi1, hy0, hy1, hy2⟩ := info_parts info_m
      clear hW9 hnC hE9 hs9 hrow9 hC HBX1 HCH1 HEW1 HF HROW h5 hbl hcl hW0wr
      go_wp2
      go_loopw [66] (fun i wr => ∃ j : Nat, j ≤ X.recs.length ∧ i = .int .i64 j ∧ ∃ ms u, recsTo X N long j = some ms ∧ wr.heap[C]? = some (.cells #[.int .u64 N, u] 105 (0, 0)) ∧ wr.ownsRow (C + 1) 102 1 u j (maskVs ms) ∧ Fr (fun i => i = C) W9 wr) (fun i _ => X.recs.length - (intOf i).toNat)
      case atStart => exact ⟨0, by omega, rfl, [], _, rfl, HNC.out, World.ownsRow_nil _ _ _ _, Fr.refl _ _⟩
      case round =>
        clear h59
        obtain ⟨j, hj, rfl, ms, u, hms, hC, ho, hF⟩ := hrel
        have HMS := Lib.hid hms
        have HC := Lib.hid hC
        have HO := Lib.hid ho
        have HF := Lib.hid hF
        have hrows := HROW9.out wr hF
        clear hms hC ho hF
        by_cases hlj : j < X.recs.length
        · obtain ⟨rb, ro, qb', cb, rfl, r1', r2', r3', r4', r5'⟩ := HRA.out j hlj
          have hEwr := HEW9.out wr HF.out
          have r1 := hEwr.cell r1'
          have r2 := hEwr.cell r2'
          have r3 := hEwr.cell r3'
          have r4 := hEwr.cell r4'
          have hjv : j < vs.length := by have := HVS.out; omega
          have hcj : wr.cell? ⟨G, j, none⟩ = some vs[j] := by rw [cell_of_heap hrows.arr]; simp [hjv]
          have hrj := hrows.row j hjv
          obtain ⟨gp, gc, hvj, hgi⟩ := ownsRow_ints hrj
          rw [hvj, gl_len] at hcj
          have hrok := HX.out.rc j hlj
          have hrec : recW X j = X.recs[j] := recW_eq hlj
          obtain ⟨rr, hrr⟩ : ∃ rr, rr = X.recs[j] := ⟨_, rfl⟩
          rw [← hrr] at r1 r2 r3 r4 r5' hrok hrec
          have HREC := Lib.hid hrec
          have hwnl := (Array.getElem?_eq_some_iff.1 hrows.arr).1
          clear r1' r2' r3' r4' hrj hvj hrr hrec
          go_upto_region 18 with (fail)
          obtain ⟨H7, hH7⟩ : ∃ H7, H7 = wr.heap.size := ⟨_, rfl⟩
          have hn7 := heap_new wr (.cells #[.int .i64 rr.worn, .int .i64 rr.limit, .int .i64 rr.price, .slice qb' rr.plays.length cb] 54)
          obtain ⟨W7, hW7⟩ : ∃ W7, W7 = wr.alloc (.cells #[.int .i64 rr.worn, .int .i64 rr.limit, .int .i64 rr.price, .slice qb' rr.plays.length cb] 54) := ⟨_, rfl⟩
          have hE7 : Ext wr W7 := by rw [hW7]; exact Ext.alloc (Ext.refl _) _
          rw [← hW7, ← hH7] at hn7
          rw [← hW7, ← hH7]
          have t0 := ExtW.cell (v := .int .i64 rr.worn) (cell_of_heap hn7 0)
          have t1 := ExtW.cell (v := .int .i64 rr.limit) (cell_of_heap hn7 1)
          have t2 := ExtW.cell (v := .int .i64 rr.price) (cell_of_heap hn7 2)
          have t3 := ExtW.cell (v := .slice qb' rr.plays.length cb) (cell_of_heap hn7 3)
          have tg := ExtW.cell (hE7.cell hcj)
          have hla := fun y : ExtW W7 => late03 (.agg #[.int .i64 rr.worn, .int .i64 rr.limit, .int .i64 rr.price, .slice qb' rr.plays.length cb]) rr gp (gl X N j long) gc y.w ⟨_, _, rfl, r5'.ext ((hEwr.trans hE7).trans y.h)⟩ hrok.worn (by rw [gl_len]; exact hl6) (fun k => by
            by_cases hkk : k < long
            · rw [gl_get X N j long k hkk]; exact grd_bd HX.out N k j
            · have : gl X N j long = gl X N j long := rfl
              rw [show (gl X N j long).getD k 0 = 0 from by simp [gl, List.getD, List.getElem?_eq_none (show (List.range long).length ≤ k by simp; omega)]]
              exact ⟨by decide, by decide⟩) (hgi.ext (hE7.trans y.h))
          have hLV := lateV_gl X N j long
          rw [HREC.out] at hLV
          rw [hLV, gl_len] at hla
          have hsn : recsTo X N long (j + 1) = match recsTo X N long j, lateW (recW X j).limit (recW X j).worn (fun k => grd X N k j) long with
            | some l, some x => some (l ++ [x])
            | _, _ => none := rfl
          rw [HMS.out, HREC.out] at hsn
          have HE7 := Lib.hid hE7
          have HN7 := Lib.hid (hEwr.trans hE7)
          have hH7C : C < H7 := by have := HF.out.size; have := HS9.out; omega
          clear hW7 hn7 hE7 r1 r2 r3 r4 r5' hcj hgi hLV hEwr hH7 hrows hwnl hrok
          cases hlw : lateW rr.limit rr.worn (fun k => grd X N k j) long with
          | none =>
            simp only [hlw] at hla hsn
            have HLA := Lib.hid (fun y : ExtW W7 => ExtW.call (hla y))
            have HSN := Lib.hid hsn
            clear hla hsn hlw
            refine wp_region_extW (w0 := W7) (x := ⟨W7, Ext.refl _⟩) (by kernel_rfl) (by kernel_rfl) ?_
            repeat (go_big_quiet_step ((go_at_call 106; exact HLA.out _)))
            refine wpQuiet_nil ?_
            rintro _ ⟨y1, rfl⟩
            have hFy : Fr (fun i => i = C) W9 y1.w := HF.out.trans ((HE7.out.trans y1.h).fr _)
            have hcy := HCH9.out y1.w hFy
            have e0 : y1.w.cell? ⟨w.heap.size + 1, 0, none⟩ = some (.int .u64 0) := (cell_of_heap hcy 0).trans rfl
            have e1 : y1.w.cell? ⟨w.heap.size + 1, 1, none⟩ = some (.slice none 0 0) := (cell_of_heap hcy 1).trans rfl
            have f0 := cell_frozen hcy 0
            have f1 := cell_frozen hcy 1
            have HCY := Lib.hid hcy
            have HEY := Lib.hid (HEW9.out y1.w hFy)
            clear hFy hcy
            go_wp2
            generalize hWz : World.setCell _ _ _ = Wz
            have hz : Wz.heap[w.heap.size + 1]? = some (.cells #[.int .u64 0, .slice none 0 0] 105 (0, 0)) := by rw [← hWz]; exact heap_set2 HCY.out
            have hEz : Ext w Wz := by rw [← hWz]; exact Ext.set (Ext.set HEY.out (by omega)) (by omega)
            have hnone : chooseW X N long = none := by
              unfold chooseW
              rw [recsTo_none HSN.out X.recs.length (by omega)]
              rfl
            refine bodyPost_ret (v := .tuple #[zeroCh, .bool false]) ?_ rfl ⟨hEz, by rw [hnone]⟩
            have a0 := cell_of_heap hz 0
            have a1 := cell_of_heap hz 1
            simp at a0 a1
            simp [results, Try.results94, go_sem, a0, a1, zeroCh]
          | some xm =>
            simp only [hlw] at hla hsn
            have HLA := Lib.hid (fun y : ExtW W7 => ExtW.call (hla y))
            have HSN := Lib.hid hsn
            clear hla hsn hlw
            refine wp_region_extW (w0 := W7) (x := ⟨W7, Ext.refl _⟩) (by kernel_rfl) (by kernel_rfl) ?_
            repeat (go_big_quiet_step ((go_at_call 106; exact HLA.out _)))
            refine wpQuiet_nil ?_
            rintro _ ⟨y1, rfl⟩
            have hEy : Ext wr y1.w := HE7.out.trans y1.h
            have hCy := (Below.block hEy C (Array.getElem?_eq_some_iff.1 HC.out).1).trans HC.out
            have e1 : y1.w.cell? ⟨C, 1, none⟩ = some u := (cell_of_heap hCy 1).trans rfl
            have HCY := Lib.hid hCy
            have HOY := Lib.hid (ownsRow_ext HO.out hEy)
            have HFY := Lib.hid (HF.out.trans (hEy.fr _))
            have hm1 : j + 1 ≤ maxLen := by unfold maxLen; omega
            have hm2 : (j + 1) * 8 ≤ 140737488355328 := by omega
            have hy1s := (Array.getElem?_eq_some_iff.1 hCy).1
            clear hEy hCy
            go_wp2_with (at_builtin; refine wpList_append_lies rfl (.tmp 84) (.tmp 86) 103 rfl (C + 1) 102 i1 (.int .u64 0) 1 8 Try.underlying103 hi1 hy0 hy1 hy2 rfl (by decide) _ j (maskVs ms) rfl (ownsRow_ext HOY.out (by repeat (first | exact Ext.refl _ | refine Ext.alloc ?_ _ | refine Ext.drew ?_))) ⟨_, 0, none⟩ 1 1 [.int .u64 xm] rfl rfl (hnewsE (by repeat (first | exact Ext.refl _ | refine Ext.drew ?_)) rfl) (one_mask _) (by decide) hm1 hm2 (by rw [size_alloc]; omega) ?_)
            intro g cap w8 hown hgrn hat
            have hub : ∀ i, u.ownBlock = some i → C + 1 ≤ i := fun i hi => (HOY.out.lt i hi).1
            have hC8 : w8.heap[C]? = some (.cells #[.int .u64 N, u] 105 (0, 0)) := (((grown_fr hgrn).block C (by rw [size_alloc]; omega) (fun e => by have := hub C e; omega)).trans (heap_old _ HCY.out))
            have hown8 : w8.ownsRow (C + 1) 102 1 (.slice (some ⟨g, 0, none⟩) (j + 1) cap) (j + 1) (maskVs (ms ++ [xm])) := by
              rw [show maskVs (ms ++ [xm]) = maskVs ms ++ [.int .u64 xm] from by simp [maskVs]]
              exact hown
            have hF8 : Fr (fun i => i = C) W9 w8 := Fr.low (((HFY.out.alloc _).mono fun i h => .inl h).trans ((grown_fr hgrn).mono fun i h => .inr (by have := hub i h; have := HS9.out; omega)))
            have HC8 := Lib.hid hC8
            have HO8 := Lib.hid hown8
            have HF8 := Lib.hid hF8
            have c0 : w8.cell? ⟨C, 1, none⟩ = some u := (cell_of_heap hC8 1).trans rfl
            have f0 := cell_frozen hC8 1
            clear hown hgrn hat hub hC8 hown8 hF8 e1
            go_wp2
            go_roundw
            case rel =>
              refine ⟨j + 1, by omega, by go_num, ms ++ [xm], _, HSN.out, heap_set HC8.out rfl, ownsRow_fr (E := fun i => i = C) HO8.out ((Fr.refl _ _).set rfl) (fun b hb e => ?_), HF8.out.set rfl⟩
              have h1 := (HO8.out.lt b hb).1
              have e2 : b = C := e
              omega
            case measure => simp [intOf]; omega
        · obtain rfl : j = X.recs.length := by omega
          have hcy := HCH9.out wr HF.out
          have e0 : wr.cell? ⟨w.heap.size + 1, 0, none⟩ = some (.int .u64 0) := (cell_of_heap hcy 0).trans rfl
          have e1 : wr.cell? ⟨w.heap.size + 1, 1, none⟩ = some (.slice none 0 0) := (cell_of_heap hcy 1).trans rfl
          have f0 := cell_frozen hcy 0
          have f1 := cell_frozen hcy 1
          have d0 : wr.cell? ⟨C, 0, none⟩ = some (.int .u64 N) := (cell_of_heap HC.out 0).trans rfl
          have d1 : wr.cell? ⟨C, 1, none⟩ = some u := (cell_of_heap HC.out 1).trans rfl
          have HCY := Lib.hid hcy
          have HEY := Lib.hid (HEW9.out wr HF.out)
          have hwC : w.heap.size + 1 < C := by have := (Array.getElem?_eq_some_iff.1 hrows.arr).1; have := HS9.out; have := (Array.getElem?_eq_some_iff.1 (HCH9.out W9 (Fr.refl _ _))).1; omega
          clear hcy hrows
          have hlen := recsTo_len _ _ HMS.out
          have ho0 := HO.out
          rw [← hlen] at ho0
          obtain ⟨mp, mc, hu, -, -, -⟩ := row_masks ho0
          subst hu
          have HLEN := Lib.hid hlen
          clear ho0 hlen
          go_wp2
          generalize hWz : World.setCell _ _ _ = Wz
          have hz : Wz.heap[w.heap.size + 1]? = some (.cells #[.int .u64 N, .slice mp ms.length mc] 105 (0, 0)) := by rw [← hWz]; exact heap_set2 HCY.out
          have hEz : Ext w Wz := by rw [← hWz]; exact Ext.set (Ext.set HEY.out (by omega)) (by omega)
          have hFz : Fr (fun i => i = w.heap.size + 1) wr Wz := by rw [← hWz]; exact ((Fr.refl (fun i => i = w.heap.size + 1) wr).set rfl).set rfl
          have hoz := ownsRow_fr HO.out hFz (fun b hb e => by have h1 := (HO.out.lt b hb).1; have e2 : b = w.heap.size + 1 := e; omega)
          rw [← HLEN.out] at hoz
          obtain ⟨mp', mc', he, hma, hmb, hmt⟩ := row_masks hoz
          cases he
          have hsome : chooseW X N long = some ⟨N, ms⟩ := by
            unfold chooseW
            rw [HMS.out]
            rfl
          refine bodyPost_ret (v := .tuple #[.agg #[.int .u64 N, .slice mp ms.length mc], .bool true]) ?_ rfl ⟨hEz, by rw [hsome]; exact ⟨_, rfl, mp, mc, rfl, hma, fun a ha => by have := hmb a ha; omega, hmt⟩⟩
          have a0 := cell_of_heap hz 0
          have a1 := cell_of_heap hz 1
          simp at a0 a1
          simp [results, Try.results94, go_sem, a0, a1]
end Go.Proofs.Ytkcilgjkdiopnaa
