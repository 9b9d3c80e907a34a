/- The walk of the end of WearLess. -/
import Derived.Test.YtkcilgjkdiopnaaLs4
namespace Go.Proofs.Ytkcilgjkdiopnaa
open Go.RowKit

def headIs (n : Nat) : Code → Bool
  | .region i _ _ => i == n
  | .seq a _ => headIs n a
  | .block _ a => headIs n a
  | .scope a => headIs n a
  | _ => false
/-- the statements from region n on -/
def fromR (n : Nat) : Code → Option Code
  | .seq a b => if headIs n (.seq a b) = true then some (.seq a b) else match fromR n a with
    | some c => some c
    | none => fromR n b
  | .block i a => if headIs n (.block i a) = true then some (.block i a) else fromR n a
  | .scope a => if headIs n (.scope a) = true then some (.scope a) else fromR n a
  | .cond _ a b => match fromR n a with
    | some c => some c
    | none => fromR n b
  | .loop a => fromR n a
  | _ => none
noncomputable def lessTail : Code := (Try.f9.body.bind (fromR 10)).getD .skip

set_option maxRecDepth 100000 in
set_option maxHeartbeats 16000000 in
theorem lessEnd03 {code : Code} (hcode : code = lessTail) (X Y : Wr) (p q pp : Option Addr) (c cp d d4 pc b3 bo B gp gq : Nat) (g cc : Nat → Nat) (l : List Wk) (w Wz : World) {c0 c2 c4 c5 c6 c8 c9 c10 c11 c12 c13 c14 c15 c16 c17 c18 c19 c20 c21 c22 c23 c24 c25 c26 c27 c28 c29 c30 c31 c32 c33 c34 c35 c36 c37 c38 c39 c40 c41 c42 c43 c44 c45 c46 c47 c48 c49 c50 c51 c52 c53 c54 c55 c56 c57 c58 c59 c60 c61 c62 c63 c64 c65 c66 c67 c68 c69 c70 c71 c72 c73 c74 c75 c76 c77 c78 c79 c80 c81 c82 c83 c84 c85 c86 c87 c88 c89 c90 c91 c92 c93 c94 c95 c96 c97 c98 c99 c100 c101 c102 c103 c104 c105 c106 c107 c108 c109 c110 c111 c112 c113 c114 c115 c116 c117 c118 c119 c120 c121 c122 c123 c124 c125 c126 c127 c128 c129 c130 c131 c132 c133 c134 c135 c136 c137 c138 c139 c140 c141 c142 c143 c144 c145 c146 c147 c148 c149 c150 c151 c152 c153 c154 c155 c156 c157 c158 c159 c160 c161 c162 c163 c164 c165 c166 c167 c168 c169 c170 c171 c172 c173 c174 c175 c176 c177 c178 c179 c180 c181 c182 c183 c184 c185 c186 c187 c188 c189 c190 c191 c192 c193 c194 c195 c196 c197 c198 c199 c200 c201 c202 c203 c204 c205 c206 c207 c208 c209 c210 c211 c212 c213 c214 c215 c216 c217 c218 c219 c220 c221 c222 c223 c224 c225 c226 c227 c228 c229 c230 c231 c232 c233 c234 c235 c236 c237 c238 c239 c240 c241 c242 c243 c244 c245 c246 c247 c248 c249 c250 c251 c252 c253 c254 c255 c256 c257 c258 c259 c260 c261 c262 c263 c264 : Value}
    (hv : WrV w (.agg #[.int .i64 X.weeks, .int .i64 X.price, .int .i64 X.age, .int .i64 X.step, .slice p X.rough.length c, .slice q X.recs.length d]) X) (hB : BigW X) (hR0 : ReadyW X) (hP : PlanOK X l) (hE : Ext w Wz) (hpl : WksAt w pp l)
    (hq : ∀ x : ExtW Wz, x.w.cell? ⟨b3, 0, none⟩ = some (.int .i64 X.weeks) ∧ x.w.cell? ⟨b3, 1, none⟩ = some (.int .i64 X.price) ∧ x.w.cell? ⟨b3, 2, none⟩ = some (.int .i64 X.age) ∧ x.w.cell? ⟨b3, 3, none⟩ = some (.int .i64 X.step) ∧
      x.w.cell? ⟨b3, 4, none⟩ = some (.slice p X.rough.length c) ∧ x.w.cell? ⟨b3, 5, none⟩ = some (.slice q X.recs.length d))
    (hown : OwnE B bo Wz Y gp cp gq d4 g cc) (hL : LessW X Y) (hps : ∀ r ∈ Y.recs, r.plays.length ≤ 6) :
    Code.wp Try.prog code (bodyPost Try.prog Try.f9 (RetE (.bool true) w)) ⟨#[c0, .slice pp l.length pc, c2, .pointer (some ⟨b3, 0, none⟩), c4, c5, c6, .pointer (some ⟨bo, 0, none⟩), c8, c9, c10, c11, c12, c13, c14, c15, c16, c17, c18, c19, c20, c21, c22, c23, c24, c25, c26, c27, c28, c29, c30, c31, c32, c33, c34, c35, c36, c37, c38, c39, c40, c41, c42, c43, c44, c45, c46, c47, c48, c49, c50, c51, c52, c53, c54, c55, c56, c57, c58, c59, c60, c61, c62, c63, c64, c65, c66, c67, c68, c69, c70, c71, c72, c73, c74, c75, c76, c77, c78, c79, c80, c81, c82, c83, c84, c85, c86, c87, c88, c89, c90, c91, c92, c93, c94, c95, c96, c97, c98, c99, c100, c101, c102, c103, c104, c105, c106, c107, c108, c109, c110, c111, c112, c113, c114, c115, c116, c117, c118, c119, c120, c121, c122, c123, c124, c125, c126, c127, c128, c129, c130, c131, c132, c133, c134, c135, c136, c137, c138, c139, c140, c141, c142, c143, c144, c145, c146, c147, c148, c149, c150, c151, c152, c153, c154, c155, c156, c157, c158, c159, c160, c161, c162, c163, c164, c165, c166, c167, c168, c169, c170, c171, c172, c173, c174, c175, c176, c177, c178, c179, c180, c181, c182, c183, c184, c185, c186, c187, c188, c189, c190, c191, c192, c193, c194, c195, c196, c197, c198, c199, c200, c201, c202, c203, c204, c205, c206, c207, c208, c209, c210, c211, c212, c213, c214, c215, c216, c217, c218, c219, c220, c221, c222, c223, c224, c225, c226, c227, c228, c229, c230, c231, c232, c233, c234, c235, c236, c237, c238, c239, c240, c241, c242, c243, c244, c245, c246, c247, c248, c249, c250, c251, c252, c253, c254, c255, c256, c257, c258, c259, c260, c261, c262, c263, c264], []⟩ Wz := by
  subst hcode
  conv => arg 2; whnf
  have HV := Lib.hid hv
  have HB := Lib.hid hB
  have HRD := Lib.hid hR0
  have HIP := Lib.hid hP
  have HE := Lib.hid (Ext.refl w)
  have HEz := Lib.hid hE
  have HPL := Lib.hid hpl
  have HQ := Lib.hid hq
  have HYz := Lib.hid hown
  have HLz := Lib.hid hL
  have HPz := Lib.hid hps
  clear hv hB hR0 hP hE hpl hq hown hL hps
  go_upto_region 10 with (fail)
  have hrlen := HLz.out.rlen
  have hrecl := HLz.out.len
  have hBig : BigW Y := ⟨by have := HB.out.rough; omega, by have := HB.out.recs; omega, fun r hr => Nat.le_trans (HPz.out r hr) (by decide)⟩
  have hvy := HYz.out.wr
  obtain ⟨a0, a1, a2, a3, a4, a5, -⟩ := HYz.out.heads
  have z0 := ExtW.cell a0
  have z1 := ExtW.cell a1
  have z2 := ExtW.cell a2
  have z3 := ExtW.cell a3
  have z4 := ExtW.cell a4
  have z5 := ExtW.cell a5
  have q0 := fun x : ExtW Wz => (HQ.out x).1
  have q1 := fun x : ExtW Wz => (HQ.out x).2.1
  have q2 := fun x : ExtW Wz => (HQ.out x).2.2.1
  have q3 := fun x : ExtW Wz => (HQ.out x).2.2.2.1
  have q4 := fun x : ExtW Wz => (HQ.out x).2.2.2.2.1
  have q5 := fun x : ExtW Wz => (HQ.out x).2.2.2.2.2
  have hEw := HE.out.trans HEz.out
  have hR := fun x : ExtW Wz => ready03 _ Y x.w (WrV.mono _ _ _ _ x.h hvy) hBig
  have HWK := Lib.hid (fun x : ExtW Wz => ExtW.call (works03 x.w))
  have HEW := Lib.hid hEw
  have HVY := Lib.hid hvy
  clear hvy hBig hrlen hrecl a0 a1 a2 a3 a4 a5 hEw HQ
  obtain ⟨x0, hx0⟩ := ExtW.of (Ext.refl Wz)
  conv => arg 5; rw [hx0]
  clear hx0
  by_cases hRo : ReadyW Y
  case neg =>
    have HR1 := Lib.hid (fun x : ExtW Wz => ExtW.call (RetE.bf hRo (hR x)))
    clear hR hRo
    go_wp2_with (first | (go_at_call 32; refine (HR1.out _).mono ?_; rintro e w' ⟨rfl, x1, rfl⟩) | (go_at_call 16; refine (HWK.out _).mono ?_; rintro e w' ⟨rfl, x2, rfl⟩))
    go_ret
    exact RetE.fin (HEW.out.trans x2.h) rfl
  have HR1 := Lib.hid (fun x : ExtW Wz => ExtW.call (RetE.bt hRo (hR x)))
  have hX := HRD.out.1
  have hY := hRo.1
  have hvx := fun x : ExtW Wz => WrV.mono _ _ _ _ (HEW.out.trans x.h) HV.out
  have hvy := fun x : ExtW Wz => WrV.mono _ _ _ _ x.h HVY.out
  have hpl := fun x : ExtW Wz => HPL.out.ext (HEz.out.trans x.h)
  have GA := fun x : ExtW Wz => ExtW.call (isGood03 _ X pp l pc x.w (hvx x) hX HIP.out (hpl x))
  have GB := fun x : ExtW Wz => ExtW.call (isGood03 _ Y pp l pc x.w (hvy x) hY (less_plan HLz.out HIP.out) (hpl x))
  have CA := fun x : ExtW Wz => ExtW.call (Cheapest03 _ X x.w (hvx x) hX (modest_valid hX))
  have CB := fun x : ExtW Wz => ExtW.call (Cheapest03 _ Y x.w (hvy x) hY (modest_valid hY))
  have NA := fun x : ExtW Wz => ExtW.call (Needles03 _ X x.w (hvx x) hX (modest_valid hX))
  have NB := fun x : ExtW Wz => ExtW.call (Needles03 _ Y x.w (hvy x) hY (modest_valid hY))
  have RA := fun x : ExtW Wz => ExtW.call (Records03 _ X x.w (hvx x) hX (modest_valid hX))
  have RB := fun x : ExtW Wz => ExtW.call (Records03 _ Y x.w (hvy x) hY (modest_valid hY))
  have hgm := less_good hX hY HLz.out HIP.out
  obtain ⟨m, e, a, b, n, f, a', b', o1, o2, o3, o4, o5, o6, he, hf, hle⟩ := less_law hX hY HLz.out
  rw [o1] at CA
  rw [o2] at NA
  rw [o3] at RA
  rw [o4] at CB
  rw [o5] at NB
  rw [o6] at RB
  have HKE := Lib.hid (fun x : ExtW Wz => ExtW.call (isKnown03 e he x.w))
  have HKF := Lib.hid (fun x : ExtW Wz => ExtW.call (isKnown03 f hf x.w))
  obtain ⟨ga, hga⟩ : ∃ ga, ga = decide (firstBad X l < 0) := ⟨_, rfl⟩
  obtain ⟨gb, hgb⟩ : ∃ gb, gb = decide (firstBad Y l < 0) := ⟨_, rfl⟩
  rw [← hga] at GA
  rw [← hgb] at GB
  have HGM := Lib.hid (show ga = true → gb = true from fun h => by rw [hga] at h; rw [hgb]; simpa using hgm (by simpa using h))
  have GA := Lib.hid GA
  have GB := Lib.hid GB
  have CA := Lib.hid CA
  have CB := Lib.hid CB
  have NA := Lib.hid NA
  have NB := Lib.hid NB
  have RA := Lib.hid RA
  have RB := Lib.hid RB
  have HE2 := Lib.hid he
  have HF2 := Lib.hid hf
  have HLE := Lib.hid hle
  clear hR hRo hX hY hvx hvy hpl hgm o1 o2 o3 o4 o5 o6 he hf hle hga hgb
  go_upto_region 14 with (first
    | (go_at_call 32; refine (HR1.out _).mono ?_; rintro e w' ⟨rfl, x1, rfl⟩)
    | (go_at_call_of 35 (Value.agg #[.int .i64 X.weeks, .int .i64 X.price, .int .i64 X.age, .int .i64 X.step, .slice p X.rough.length c, .slice q X.recs.length d]); refine (GA.out _).mono ?_; rintro e w' ⟨rfl, x3, rfl⟩)
    | (go_at_call 35; refine (GB.out _).mono ?_; rintro e w' ⟨rfl, x4, rfl⟩))
  cases ga
  case' true =>
    have hgt := HGM.out rfl
    subst hgt
  all_goals clear HGM
  all_goals
    rcases HE2.out with h0 | h0
    all_goals subst h0
  all_goals try (
    obtain ⟨h1, h2, h3, h4⟩ := HLE.out rfl
    subst h1
    have i1 : ¬m < n := by omega
    have i2 : ¬a < a' := by omega)
  all_goals
    clear HLE HE2 HF2
    go_wp2_with (first
    | (go_at_call_of 36 (Value.agg #[.int .i64 X.weeks, .int .i64 X.price, .int .i64 X.age, .int .i64 X.step, .slice p X.rough.length c, .slice q X.recs.length d]); refine (CA.out _).mono ?_; rintro e w' ⟨rfl, x5, rfl⟩)
    | (go_at_call 36; refine (CB.out _).mono ?_; rintro e w' ⟨rfl, x6, rfl⟩)
    | (go_at_call_of 40 (Value.agg #[.int .i64 X.weeks, .int .i64 X.price, .int .i64 X.age, .int .i64 X.step, .slice p X.rough.length c, .slice q X.recs.length d]); refine (NA.out _).mono ?_; rintro e w' ⟨rfl, x7, rfl⟩)
    | (go_at_call 40; refine (NB.out _).mono ?_; rintro e w' ⟨rfl, x8, rfl⟩)
    | (go_at_call_of 41 (Value.agg #[.int .i64 X.weeks, .int .i64 X.price, .int .i64 X.age, .int .i64 X.step, .slice p X.rough.length c, .slice q X.recs.length d]); refine (RA.out _).mono ?_; rintro e w' ⟨rfl, x9, rfl⟩)
    | (go_at_call 41; refine (RB.out _).mono ?_; rintro e w' ⟨rfl, x10, rfl⟩)
    | (go_at_call_of 37 (Value.int .i64 3); refine (HKE.out _).mono ?_; rintro e w' ⟨rfl, x11, rfl⟩)
    | (go_at_call 37; refine (HKF.out _).mono ?_; rintro e w' ⟨rfl, x12, rfl⟩)
    | (go_at_call 16; refine (HWK.out _).mono ?_; rintro e w' ⟨rfl, x2, rfl⟩))
    go_ret
    exact RetE.fin (HEW.out.trans x2.h) rfl
end Go.Proofs.Ytkcilgjkdiopnaa
