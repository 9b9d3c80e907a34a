/- Maps keyed by pairs: the key; an entry that is taken and then stored. -/
import Derived.Test.YtimelbcfaniifaaDoorQ9b
import Derived.DeepKeys4
import Derived.WideKeyEntry
namespace Go.Proofs.YtimelbcfaniifaaDoor
open Go.RowKit Go.Maps
open Go.WideElems (Fit rd rg pl)
open Go.ChangeMaps (setBlock heap_setBlock_same heap_setBlock_other)

theorem laid_all : laidOutB Tryd.prog = true := by kernel_rfl
theorem row_pair : (97 : TypeId) < Tryd.prog.types.size := of_decide_eq_true (by kernel_rfl)
theorem wide_pair : (match Tryd.prog.underlying 97 with | some (.array _ _) | some (.struct _) => true | _ => false) = true := by rw [Tryd.underlying97]
set_option maxRecDepth 100000 in
theorem key_law : WideMaps.KeyLaw Tryd.prog 97 := deep_law_laid laid_all (m := 2) (by omega) row_pair (by kernel_rfl) wide_pair
theorem law_pair : Keyed Tryd.prog 97 := Keyed.of_law key_law
theorem cells_pair : Tryd.prog.cellsOf 97 = 2 := by kernel_rfl
theorem cells_int : Tryd.prog.cellsOf 3 = 1 := by kernel_rfl
theorem keyType_pair : Tryd.prog.keyType 97 = true := by kernel_rfl
theorem formed_pair (a b : Value) : (Value.agg #[a, b]).formed Tryd.prog 97 = true := by simp [Value.formed, Tryd.underlying97, cells_pair]
theorem lits_int {n : Nat} {a : Int} (h : (Lit.int .i64 a).wf = true) : Tryd.prog.keyLits (n + 1) 3 [.int .i64 a] = some [.int .i64 a] := by
  unfold Program.keyLits
  rw [Tryd.underlying3]
  simp [h]
theorem lits_pair {n : Nat} {a b : Int} (ha : (Lit.int .i64 a).wf = true) (hb : (Lit.int .i64 b).wf = true) : Tryd.prog.keyLits (n + 1 + 1) 97 [.int .i64 a, .int .i64 b] = some [.int .i64 a, .int .i64 b] := by
  rw [Program.keyLits.eq_def]
  simp only [Tryd.underlying97]
  rw [if_pos ⟨by rw [cells_pair]; rfl, by kernel_rfl⟩]
  simp [cells_int, lits_int ha, lits_int hb]
/-- what a pair reads as -/
noncomputable def pk (a b : Int) : Lit := .string (keyBytes [.int .i64 a, .int .i64 b])
theorem key_pair {a b : Int} (ha : (Lit.int .i64 a).wf = true) (hb : (Lit.int .i64 b).wf = true) : keyOf Tryd.prog 97 (.agg #[.int .i64 a, .int .i64 b]) = some (pk a b) := by
  unfold keyOf
  simp only [Tryd.underlying97]
  rw [keyType_pair, formed_pair, Bool.and_self, if_pos rfl]
  have hs : ∃ n, Tryd.prog.types.size + 1 = n + 1 + 1 := ⟨Tryd.prog.types.size - 1, by have h : (97 : Nat) < Tryd.prog.types.size := row_pair; omega⟩
  obtain ⟨n, hn⟩ := hs
  rw [hn]
  have e : (Value.agg #[Value.int .i64 a, .int .i64 b]).cells.toList = [.int .i64 a, .int .i64 b] := by simp [Value.cells]
  rw [e, lits_pair ha hb]
  rfl
theorem pk_inj {a b c d : Int} (ha : (Lit.int .i64 a).wf = true) (hb : (Lit.int .i64 b).wf = true) (hc : (Lit.int .i64 c).wf = true) (hd : (Lit.int .i64 d).wf = true) (h : pk a b = pk c d) : a = c ∧ b = d := by
  have := law_pair.inj (key_pair ha hb) (h ▸ key_pair hc hd)
  injection this with this
  have h1 := congrArg (fun x => x[0]?) this
  have h2 := congrArg (fun x => x[1]?) this
  simp at h1 h2
  exact ⟨h1, h2⟩

section
variable {R : Value → Option (DataW Unit × List MemPlace)} {b : Nat} {es : Array MapEntry} {clock : Nat} {key : Value} {kl : Lit}
theorem run_entry_new {w : World} (hkey : keyOf Tryd.prog 97 key = some kl) (hb : w.heap[b]? = some (.map es clock)) (h1 : (Instr.findKey 97 key es.toList).run Tryd.prog w = .ok none w) :
    (Instr.mapEntry 94 (.map (some b)) key).run Tryd.prog w = .ok (.tuple #[.int .i64 0, goInt clock]) (setBlock w b (.map (es.push ⟨key, .int .i64 0, clock⟩) (clock + 1))) := by
  simp [Instr.mapEntry, run_underlying Tryd.underlying94, MapKept.run_getObj_map hb, law_pair.check w false hkey, h1, MapKept.run_setObj_map _ hb, Result.andThen, setBlock]
theorem run_entry_old {w : World} {j : Nat} {e0 : MapEntry} (hkey : keyOf Tryd.prog 97 key = some kl) (hb : w.heap[b]? = some (.map es clock)) (h1 : (Instr.findKey 97 key es.toList).run Tryd.prog w = .ok (some (j, e0.val)) w)
    (h2 : es.toList[j]? = some e0) (h3 : e0.key = key) :
    (Instr.mapEntry 94 (.map (some b)) key).run Tryd.prog w = .ok (.tuple #[e0.val, goInt e0.born]) (setBlock w b (.map es clock)) := by
  have hj : es[j]? = some e0 := by simpa using h2
  have hsame : es.modify j (fun e => { e with key := key }) = es := by
    apply Array.ext'
    rw [Array.toList_modify, ChangeMaps.modify_eq_set _ _ _ _ h2]
    have : ({ e0 with key := key } : MapEntry) = e0 := by rw [← h3]
    rw [this]
    exact WideElems.set_self _ _ _ h2
  simp [Instr.mapEntry, run_underlying Tryd.underlying94, MapKept.run_getObj_map hb, law_pair.check w false hkey, h1, hj, h3, law_pair.stays w hkey, hsame, MapKept.run_setObj_map _ hb, Result.andThen, setBlock]
theorem run_put_new {w : World} {v : Value} (hkey : keyOf Tryd.prog 97 key = some kl) (hb : w.heap[b]? = some (.map es clock)) (h1 : (Instr.findKey 97 key es.toList).run Tryd.prog w = .ok none w) :
    (Instr.mapUpdate 94 (.map (some b)) key v).run Tryd.prog w = .ok () (setBlock w b (.map (es.push ⟨key, v, clock⟩) (clock + 1))) := by
  simp [Instr.mapUpdate, run_underlying Tryd.underlying94, MapKept.run_getObj_map hb, law_pair.check w false hkey, h1, MapKept.run_setObj_map _ hb, Result.andThen, setBlock]
theorem run_put_old {w : World} {v : Value} {j : Nat} {e0 : MapEntry} (hkey : keyOf Tryd.prog 97 key = some kl) (hb : w.heap[b]? = some (.map es clock)) (h1 : (Instr.findKey 97 key es.toList).run Tryd.prog w = .ok (some (j, e0.val)) w)
    (h2 : es.toList[j]? = some e0) (h3 : e0.key = key) :
    (Instr.mapUpdate 94 (.map (some b)) key v).run Tryd.prog w = .ok () (setBlock w b (.map (es.modify j fun e => { e with val := v }) clock)) := by
  have hj : es[j]? = some e0 := by simpa using h2
  have hmod : (es.modify j fun e => { e with key := key, val := v }) = es.modify j fun e => { e with val := v } := by
    apply Array.ext'
    rw [Array.toList_modify, Array.toList_modify, ChangeMaps.modify_eq_set _ _ _ _ h2, ChangeMaps.modify_eq_set _ _ _ _ h2, ← h3]
  simp [Instr.mapUpdate, run_underlying Tryd.underlying94, MapKept.run_getObj_map hb, law_pair.check w false hkey, h1, hj, h3, law_pair.stays w hkey, hmod, MapKept.run_setObj_map _ hb, Result.andThen, setBlock]
theorem run_store {w : World} {v : Value} {j st : Nat} (hb : w.heap[b]? = some (.map es clock)) (hidx : es.findIdx? (fun e => ((e.born : Nat) : Int) == ((st : Nat) : Int)) = some j) :
    (Instr.entryStore 94 (.map (some b)) (goInt st) v).run Tryd.prog w = .ok () (setBlock w b (.map (es.modify j fun e => { e with val := v }) clock)) := by
  simp [Instr.entryStore, MapKept.run_getObj_map hb, asInt, asIntOf, goInt, hidx, MapKept.run_setObj_map _ hb, Result.andThen, setBlock]
theorem run_look_new {w : World} (hkey : keyOf Tryd.prog 97 key = some kl) (hb : w.heap[b]? = some (.map es clock)) (h1 : (Instr.findKey 97 key es.toList).run Tryd.prog w = .ok none w) :
    (Instr.lookup 94 (.map (some b)) key false).run Tryd.prog w = .ok (.int .i64 0) w := by
  simp [Instr.lookup, run_underlying Tryd.underlying94, MapKept.run_getObj_map hb, law_pair.check w _ hkey, h1, Result.andThen]
theorem run_look_old {w : World} {j : Nat} {v : Value} (hkey : keyOf Tryd.prog 97 key = some kl) (hb : w.heap[b]? = some (.map es clock)) (h1 : (Instr.findKey 97 key es.toList).run Tryd.prog w = .ok (some (j, v)) w) :
    (Instr.lookup 94 (.map (some b)) key false).run Tryd.prog w = .ok v w := by
  simp [Instr.lookup, run_underlying Tryd.underlying94, MapKept.run_getObj_map hb, law_pair.check w _ hkey, h1, Result.andThen]
/-- an entry that is taken, perhaps laid, and then stored: what comes of it, in whatever world -/
theorem ent_facts (F : Fit Tryd.prog 97 R es clock) (hkey : keyOf Tryd.prog 97 key = some kl) :
    ∃ (v0 : Value) (st : Nat) (es1 : Array MapEntry) (clock1 : Nat),
      (∀ w : World, w.heap[b]? = some (.map es clock) ∨ w.heap[b]? = some (.map es1 clock1) → (Instr.mapEntry 94 (.map (some b)) key).run Tryd.prog w = .ok (.tuple #[v0, goInt st]) (setBlock w b (.map es1 clock1))) ∧
      (∀ w : World, w.heap[b]? = some (.map es clock) → (Instr.mapUpdate 94 (.map (some b)) key v0).run Tryd.prog w = .ok () (setBlock w b (.map es1 clock1))) ∧
      (∀ w : World, w.heap[b]? = some (.map es clock) ∨ w.heap[b]? = some (.map es1 clock1) → (Instr.lookup 94 (.map (some b)) key false).run Tryd.prog w = .ok v0 w) ∧
      ∀ v : Value, ∃ es' clock', (∀ w : World, w.heap[b]? = some (.map es1 clock1) → (Instr.entryStore 94 (.map (some b)) (goInt st) v).run Tryd.prog w = .ok () (setBlock w b (.map es' clock'))) ∧
        ∀ w : World, w.heap[b]? = some (.map es clock) → (Instr.mapUpdate 94 (.map (some b)) key v).run Tryd.prog w = .ok () (setBlock w b (.map es' clock')) := by
  obtain ⟨s1, s2, _⟩ := F.stamped
  by_cases hex : ∃ (j : Nat) (e0 : MapEntry), es.toList[j]? = some e0 ∧ e0.key = key
  · obtain ⟨j, e0, h2, h3⟩ := hex
    have hfind : ∀ w : World, (Instr.findKey 97 key es.toList).run Tryd.prog w = .ok (some (j, e0.val)) w := by
      intro w
      rcases law_pair.find w hkey es.toList F.keys with ⟨h1, hno⟩ | ⟨j', e', h1, h4, h5⟩
      · exact absurd h3 (hno e0 (List.mem_of_getElem? h2))
      · have hj : j' = j := Classical.byContradiction fun hne => WideElems.other_key F h2 h4 hne (by rw [h5, h3])
        subst hj
        rw [h2] at h4
        cases h4
        exact h1
    have hidx : es.findIdx? (fun e => ((e.born : Nat) : Int) == ((e0.born : Nat) : Int)) = some j := by
      rw [WideElems.findIdx_arr]
      exact WideElems.findIdx_born s2 h2
    have hself : (es.modify j fun e => { e with val := e0.val }) = es := by
      apply Array.ext'
      rw [Array.toList_modify, ChangeMaps.modify_eq_set _ _ _ _ h2]
      exact WideElems.set_self _ _ _ h2
    refine ⟨e0.val, e0.born, es, clock, fun w hb => run_entry_old hkey (hb.elim id id) (hfind w) h2 h3, fun w hb => ?_, fun w hb => run_look_old hkey (hb.elim id id) (hfind w), fun v => ⟨_, _, fun w hb => run_store hb hidx, fun w hb => run_put_old hkey hb (hfind w) h2 h3⟩⟩
    have h := run_put_old (v := e0.val) hkey hb (hfind w) h2 h3
    rw [hself] at h
    exact h
  · have hno : ∀ x ∈ es.toList, x.key ≠ key := fun x hx e => by
      obtain ⟨j, hj⟩ := List.getElem?_of_mem hx
      exact hex ⟨j, x, hj, e⟩
    have hfind : ∀ w : World, (Instr.findKey 97 key es.toList).run Tryd.prog w = .ok none w := by
      intro w
      rcases law_pair.find w hkey es.toList F.keys with ⟨h1, -⟩ | ⟨j', e', h1, h4, h5⟩
      · exact h1
      · exact absurd h5 (hno e' (List.mem_of_getElem? h4))
    have hl : (es.push ⟨key, .int .i64 0, clock⟩).toList[es.size]? = some ⟨key, .int .i64 0, clock⟩ := by simp
    have hfind1 : ∀ w : World, (Instr.findKey 97 key (es.push ⟨key, .int .i64 0, clock⟩).toList).run Tryd.prog w = .ok (some (es.size, .int .i64 0)) w := by
      intro w
      rcases law_pair.find w hkey (es.push ⟨key, .int .i64 0, clock⟩).toList (fun x hx => by
        simp only [Array.toList_push, List.mem_append, List.mem_singleton] at hx
        rcases hx with hx | rfl
        · exact F.keys x hx
        · exact ⟨kl, hkey⟩) with ⟨h1, hn⟩ | ⟨j', e', h1, h4, h5⟩
      · exact absurd rfl (hn ⟨key, .int .i64 0, clock⟩ (by simp))
      · have hj : j' = es.size := Classical.byContradiction fun hne => by
          have hlt : j' < es.toList.length := by
            have := (List.getElem?_eq_some_iff.1 h4).1
            simp at this ⊢
            omega
          rw [Array.toList_push, List.getElem?_append_left hlt] at h4
          exact hno e' (List.mem_of_getElem? h4) h5
        subst hj
        rw [hl] at h4
        cases h4
        exact h1
    have hidx : (es.push ⟨key, .int .i64 0, clock⟩).findIdx? (fun e => ((e.born : Nat) : Int) == ((clock : Nat) : Int)) = some es.size := by
      rw [WideElems.findIdx_arr]
      exact WideElems.findIdx_born (e0 := ⟨key, .int .i64 0, clock⟩) (by
        simp only [Array.toList_push, List.map_append, List.map_cons, List.map_nil]
        refine List.nodup_append.2 ⟨s2, by simp, fun a ha c hc e1 => ?_⟩
        simp only [List.mem_singleton] at hc
        obtain ⟨x, hx, rfl⟩ := List.mem_map.1 ha
        have := s1 x hx
        omega) hl
    have hmod : ∀ v : Value, ((es.push ⟨key, .int .i64 0, clock⟩).modify es.size fun e => { e with val := v }) = es.push ⟨key, v, clock⟩ := by
      intro v
      apply Array.ext'
      rw [Array.toList_modify, Array.toList_push, Array.toList_push, ← Array.length_toList, WideElems.modify_last]
    refine ⟨.int .i64 0, clock, es.push ⟨key, .int .i64 0, clock⟩, clock + 1, fun w hb => ?_, fun w hb => run_put_new hkey hb (hfind w), fun w hb => hb.elim (fun hb => run_look_new hkey hb (hfind w)) (fun hb => run_look_old hkey hb (hfind1 w)), fun v => ⟨es.push ⟨key, v, clock⟩, clock + 1, fun w hb => ?_, fun w hb => run_put_new hkey hb (hfind w)⟩⟩
    · rcases hb with hb | hb
      · exact run_entry_new hkey hb (hfind w)
      · exact run_entry_old hkey hb (hfind1 w) hl rfl
    · rw [← hmod v]
      exact run_store hb hidx
end
theorem CntMap.of_heap {w y : World} {kt : TypeId} {b n : Nat} {f : Lit → Int} (h : CntMap w kt b n f) (e : y.heap[b]? = w.heap[b]?) : CntMap y kt b n f := by
  obtain ⟨D, ⟨es, clock, hb, hF⟩, h2⟩ := h
  exact ⟨D, ⟨es, clock, e.trans hb, hF⟩, h2⟩
/-- m[k]++ of a map keyed by pairs: the entry is taken and then stored; the look-up, the entry and the store, in whatever world -/
theorem cnt_entry {w : World} {b n : Nat} {f : Lit → Int} {key : Value} {kl : Lit} (h : CntMap w 97 b n f) (hn : n < maxLen) (hkey : keyOf Tryd.prog 97 key = some kl) :
    ∃ (st : Nat) (o0 o1 : Obj), w.heap[b]? = some o0 ∧
      (∀ y : World, y.heap[b]? = some o0 ∨ y.heap[b]? = some o1 → (Instr.mapEntry 94 (.map (some b)) key).run Tryd.prog y = .ok (.tuple #[.int .i64 (f kl), goInt st]) (setBlock y b o1)) ∧
      (∀ y : World, y.heap[b]? = some o0 ∨ y.heap[b]? = some o1 → (Instr.lookup 94 (.map (some b)) key false).run Tryd.prog y = .ok (.int .i64 (f kl)) y) ∧
      ∀ v : Int, (Lit.int .i64 v).wf = true → ∃ o2, (∀ y : World, y.heap[b]? = some o1 → (Instr.entryStore 94 (.map (some b)) (goInt st) (.int .i64 v)).run Tryd.prog y = .ok () (setBlock y b o2)) ∧
        ∀ y : World, y.heap[b]? = some o2 → CntMap y 97 b (n + 1) (cntUp f kl v) := by
  obtain ⟨D, ho, hD, hf⟩ := h
  obtain ⟨es, clock, hb, F, hs, hDe⟩ := id ho
  obtain ⟨v0, st, es1, clock1, h1, h2, h3, h4⟩ := ent_facts (b := b) F hkey
  obtain ⟨c, hrun, hat, _⟩ := ho.lookup_int law_pair Tryd.underlying94 Tryd.underlying3 (zero_i64 w) hkey
  have hc : c = f kl := by
    have := hf kl
    rw [hat] at this
    cases this
    rfl
  have hv0 : v0 = .int .i64 (f kl) := by
    have := h3 w (Or.inl hb)
    rw [hrun, hc] at this
    cases this
    rfl
  subst hv0
  refine ⟨st, _, _, hb, h1, h3, fun v hv => ?_⟩
  obtain ⟨es', clock', h5, h6⟩ := h4 (.int .i64 v)
  refine ⟨_, h5, fun y hy => ?_⟩
  obtain ⟨w', r1, r2, r3⟩ := ho.update law_pair Tryd.underlying94 hn hkey (plainElem_int Tryd.underlying3 hv)
  have hw' : w' = setBlock w b (.map es' clock') := by
    have := h6 w hb
    rw [r1] at this
    cases this
    rfl
  have hcm : CntMap w' 97 b (n + 1) (cntUp f kl v) := by
    refine ⟨_, r2, hD.put kl _, fun k => ?_⟩
    by_cases hk : k = kl
    · subst hk
      rw [cntUp_same]
      exact atKey_put_same hD (law_pair.key hkey) _ _
    · rw [cntUp_other f v hk, ← hf k]
      exact atKey_put_other hk _ _
  refine hcm.of_heap ?_
  rw [hy, hw']
  exact (heap_setBlock_same hb _).symm
end Go.Proofs.YtimelbcfaniifaaDoor
