
/- What a plain statement's last step wants; a needle opened. -/
import Derived.Test.YtppncdbhebgcaaaOpY
import Derived.ProofKit
import Derived.OpenShut
import Derived.JoinedCond
namespace Go.Proofs.Ytppncdbhebgcaaa
open Go.ChangeShapes Go.WideShapes Go.ChangeAt Go.RowKit Go.Deep

theorem lawOwnP : ownKnob Try.prog.godebug = none := by kernel_rfl
theorem lawLaidP : laidOutB Try.prog = true := by kernel_rfl
/-- all arguments read behind a call that leaves the old memory alone as they read before -/
theorem trodAll_extP {H : Type} {enc : TypeId × Value → H} {W W' : World} (hE : Ext W W') : ∀ {ts : List TypeId} {vs : List Value} {ds : List (DataW H)} {p : List MemPlace}
    (_ : ∀ t ∈ ts, Try.prog.readableRec t = true ∧ t < Try.prog.types.size) (_ : DataW.TrodAll enc Try.prog W 0 (fun _ => true) true ts vs ds p) (_ : ∀ x ∈ p, x.block < W.heap.size),
    DataW.TrodAll enc Try.prog W' 0 (fun b => decide (b < W.heap.size)) true ts vs ds p
  | [], _, _, _, _, h, _ => by
    obtain ⟨rfl, rfl, rfl⟩ := trodAll_nil h
    exact trodAll_mk0
  | t :: ts, _, _, _, ht, h, hlt => by
    obtain ⟨v, vs, d, ds, p, q, rfl, rfl, rfl, h0, h1⟩ := trodAll_cons h
    obtain ⟨r1, r2⟩ := ht t (by simp)
    exact trodAll_cons_mk (Below.trod lawLaidP r1 r2 h0 hE fun x hx => hlt x (by simp [hx])) (trodAll_extP hE (fun t' h' => ht t' (by simp [h'])) h1 fun x hx => hlt x (by simp [hx]))
/-- the post of a law that returns true and leaves the old memory alone -/
theorem post_trueP {H : Type} {enc : TypeId × Value → H} {f : Func} {s : ChangeSpec} {W W' : World} {args : Array Value} {ds : List (DataW H)} {before : List MemPlace}
    (hW : DataW.Whole enc Try.prog f.params.toList s.vars false W args.toList ds [] before) (hv : s.vars = []) (hr : f.resultTypes = #[4])
    (hts : ∀ t ∈ f.params.toList, Try.prog.readableRec t = true ∧ t < Try.prog.types.size) (hs : s.fn H (ds ++ []) = { results := [.lit (.bool true)], args := ds }) (hE : Ext W W') :
    s.post enc Try.prog f false true false false W args (.bool true) W' := by
  obtain ⟨p, q, hA, hV, he, -, -⟩ := id hW
  rw [hv] at hV
  obtain ⟨-, rfl⟩ := trodVars_none hV
  rw [List.append_nil] at he
  rw [← he] at hA
  refine ⟨ds, [], before, [], before, [], hW, ?_, ?_, ?_, Below.frame hE _, fun h => by cases h⟩
  · rw [hs, hr]
    exact trodAll_mk1 (shut_bool Try.underlying4 _)
  · rw [hs]
    exact trodAll_extP hE hts hA fun x hx => by simpa using hW.lt x hx
  · rw [hs, hv]
    rfl
end Go.Proofs.Ytppncdbhebgcaaa
