/- A map from whole numbers to whole numbers in memory: what each operation makes of its entries. -/
import Derived.Test.YtmanlmhiiijlmaaProg
import Derived.Maps.OwnSet
import Derived.MapKept
import Derived.Below
import Derived.WalkKit
namespace Go.Proofs.Ytmanlmhiiijlmaa
open Go.RowKit
abbrev Ents := List (Int × Int × Nat)
def mkE (p : Int × Int × Nat) : MapEntry := ⟨.int .i64 p.1, .int .i64 p.2.1, p.2.2⟩
def MO (m : Ents) (clock : Nat) : Obj := .map (m.map mkE).toArray clock
def setB (w : World) (b : Nat) (o : Obj) : World := { w with heap := w.heap.setIfInBounds b o }
def look (k : Int) : Ents → Nat → Option (Nat × Int × Nat)
  | [], _ => none
  | p :: m, i => if k = p.1 then some (i, p.2) else look k m (i + 1)
theorem findNow_look (k : Int) : ∀ (m : Ents) (i : Nat), Instr.findNow (.int .i64) (.int .i64 k) (m.map mkE) i = some ((look k m i).map fun q => (q.1, .int .i64 q.2.1))
  | [], _ => rfl
  | p :: m, i => by
    rw [List.map_cons, Instr.findNow, look]
    by_cases h : k = p.1
    · simp [Instr.sameNow, mkE, h]
    · have h' : (k == p.1) = false := by simpa using h
      simp [Instr.sameNow, mkE, h, h', findNow_look k m (i + 1)]
theorem look_at (k : Int) : ∀ (m : Ents) (s i : Nat) (x : Int × Nat), look k m s = some (i, x) → ∃ j, i = s + j ∧ m[j]? = some (k, x)
  | [], _, _, _, h => by simp [look] at h
  | p :: m, s, i, x, h => by
    rw [look] at h
    by_cases e : k = p.1
    · rw [if_pos e] at h
      simp only [Option.some.injEq, Prod.mk.injEq] at h
      obtain ⟨rfl, rfl⟩ := h
      exact ⟨0, rfl, by rw [e]; rfl⟩
    · rw [if_neg e] at h
      obtain ⟨j, rfl, hj⟩ := look_at k m (s + 1) i x h
      exact ⟨j + 1, by omega, by simpa using hj⟩
theorem look_none (k : Int) : ∀ (m : Ents) (s : Nat), look k m s = none → ∀ p ∈ m, p.1 ≠ k
  | [], _, _ => by simp
  | p :: m, s, h => by
    rw [look] at h
    by_cases e : k = p.1
    · rw [if_pos e] at h; cases h
    · rw [if_neg e] at h
      intro q hq
      rcases List.mem_cons.1 hq with rfl | hq
      · exact fun e2 => e e2.symm
      · exact look_none k m (s + 1) h q hq
theorem isKey (k : Int) : MapKept.IsKey (.int .i64) (.int .i64 k) := by simp [MapKept.IsKey]
theorem setB_at {w : World} {b : Nat} {o o' : Obj} (h : w.heap[b]? = some o) : (setB w b o').heap[b]? = some o' := (MapKept.heap_set h).1
theorem setB_other {w : World} {b : Nat} {o o' : Obj} (h : w.heap[b]? = some o) (k : Nat) (hk : k ≠ b) : (setB w b o').heap[k]? = w.heap[k]? := (MapKept.heap_set h).2 k hk
theorem setB_self {w : World} {b : Nat} {o : Obj} (h : w.heap[b]? = some o) : setB w b o = w := by
  unfold setB
  have : w.heap.setIfInBounds b o = w.heap := by
    obtain ⟨hlt, he⟩ := Array.getElem?_eq_some_iff.1 h
    apply Array.ext_getElem?
    intro i
    rw [Array.getElem?_setIfInBounds]
    split
    · rename_i e
      subst e
      simp [hlt, he]
    · rfl
  rw [this]
theorem map_modify (m : Ents) (j : Nat) (f : MapEntry → MapEntry) (f' : Int × Int × Nat → Int × Int × Nat) (h : ∀ p, m[j]? = some p → f (mkE p) = mkE (f' p)) : (m.map mkE).modify j f = (m.modify j f').map mkE := by
  apply List.ext_getElem?
  intro i
  rw [List.getElem?_modify, List.getElem?_map, List.getElem?_map, List.getElem?_modify]
  cases hm : m[i]? with
  | none => rfl
  | some p =>
    by_cases e : j = i
    · subst e
      simp [h p hm]
    · simp [e]
/-- v, ok := m[k]. -/
theorem run_lookup (w : World) (mb : Nat) (m : Ents) (clock : Nat) (k : Int) (h : w.heap[mb]? = some (MO m clock)) :
    (Instr.lookup 53 (.map (some mb)) (.int .i64 k) true).run Try.prog w = .ok (.tuple #[.int .i64 (((look k m 0).map fun q => q.2.1).getD 0), .bool (look k m 0).isSome]) w := by
  have hz : (zeroValue 3).run Try.prog w = .ok (.int .i64 0) w := by kernel_rfl
  have hf := MapKept.run_findKey (P := Try.prog) (w := w) (kt := 3) Try.underlying3 (findNow_look k m 0)
  unfold MO at h
  cases hl : look k m 0 with
  | none => simp [Instr.lookup, run_underlying Try.underlying53, MapKept.run_getObj_map h, MapKept.run_checkKey Try.underlying3 (isKey k), hf, hl, hz, Result.andThen]
  | some q => simp [Instr.lookup, run_underlying Try.underlying53, MapKept.run_getObj_map h, MapKept.run_checkKey Try.underlying3 (isKey k), hf, hl, Result.andThen]
def upd (m : Ents) (clock : Nat) (k v : Int) : Ents := match look k m 0 with
  | some (i, _) => m.modify i fun p => (p.1, v, p.2.2)
  | none => m ++ [(k, v, clock)]
def clk (m : Ents) (clock : Nat) (k : Int) : Nat := if (look k m 0).isSome then clock else clock + 1
/-- m[k] = v. -/
theorem run_mapUpdate (w : World) (mb : Nat) (m : Ents) (clock : Nat) (k v : Int) (h : w.heap[mb]? = some (MO m clock)) :
    (Instr.mapUpdate 53 (.map (some mb)) (.int .i64 k) (.int .i64 v)).run Try.prog w = .ok () (setB w mb (MO (upd m clock k v) (clk m clock k))) := by
  have hf := MapKept.run_findKey (P := Try.prog) (w := w) (kt := 3) Try.underlying3 (findNow_look k m 0)
  have h0 := h
  unfold MO at h
  cases hl : look k m 0 with
  | none =>
    simp [Instr.mapUpdate, run_underlying Try.underlying53, MapKept.run_getObj_map h, MapKept.run_checkKey Try.underlying3 (isKey k), hf, hl, MapKept.run_setObj_map _ h, Result.andThen, upd, clk, setB, MO, mkE]
  | some q =>
    obtain ⟨i, x⟩ := q
    obtain ⟨j, rfl, hj⟩ := look_at k m 0 i x hl
    simp [Instr.mapUpdate, run_underlying Try.underlying53, MapKept.run_getObj_map h, MapKept.run_checkKey Try.underlying3 (isKey k), hf, hl, MapKept.run_setObj_map _ h, Result.andThen, upd, clk, setB, MO, hj, mkE, MapKept.run_keyThatStays (isKey k)]
    rw [map_modify m j _ (fun p => (p.1, v, p.2.2)) (fun p hp => by rw [hj] at hp; cases hp; rfl)]
/-- The entry of m[k], which is there. -/
theorem run_mapEntry (w : World) (mb : Nat) (m : Ents) (clock : Nat) (k : Int) (i : Nat) (x : Int × Nat) (h : w.heap[mb]? = some (MO m clock)) (hl : look k m 0 = some (i, x)) :
    (Instr.mapEntry 53 (.map (some mb)) (.int .i64 k)).run Try.prog w = .ok (.tuple #[.int .i64 x.1, .int .i64 (x.2 : Nat)]) w := by
  have hf := MapKept.run_findKey (P := Try.prog) (w := w) (kt := 3) Try.underlying3 (findNow_look k m 0)
  have h0 := h
  unfold MO at h
  obtain ⟨j, e, hj⟩ := look_at k m 0 i x hl
  obtain rfl : i = j := by omega
  have hs : setB w mb (.map ((m.map mkE).modify i fun e => { e with key := .int .i64 k }).toArray clock) = w := by
    rw [map_modify m i _ (fun p => p) (fun p hp => by rw [hj] at hp; cases hp; rfl)]
    have : m.modify i (fun p => p) = m := by
      apply List.ext_getElem?
      intro a
      rw [List.getElem?_modify]
      cases m[a]? <;> simp
    rw [this]
    exact setB_self h
  unfold setB at hs
  simp [Instr.mapEntry, run_underlying Try.underlying53, MapKept.run_getObj_map h, MapKept.run_checkKey Try.underlying3 (isKey k), hf, hl, MapKept.run_setObj_map _ h, Result.andThen, hj, mkE, MapKept.run_keyThatStays (isKey k), hs, goInt]
/-- Storing into the entry that was born at b. -/
theorem run_entryStore (w : World) (mb : Nat) (m : Ents) (clock : Nat) (b : Nat) (v : Int) (i : Nat) (h : w.heap[mb]? = some (MO m clock)) (hi : m.findIdx? (fun p => p.2.2 == b) = some i) :
    (Instr.entryStore 53 (.map (some mb)) (.int .i64 (b : Int)) (.int .i64 v)).run Try.prog w = .ok () (setB w mb (MO (m.modify i fun p => (p.1, v, p.2.2)) clock)) := by
  unfold MO at h
  have hf : (m.map mkE).findIdx? (fun e => (e.born : Int) == (b : Int)) = some i := by
    rw [List.findIdx?_map]
    rw [← hi]
    congr 1
    funext p
    rw [Bool.eq_iff_iff]
    simp [mkE]
    omega
  simp [Instr.entryStore, MapKept.run_getObj_map h, MapKept.run_setObj_map _ h, Result.andThen, asInt, asIntOf, setB, MO, hf]
  rw [map_modify m i _ (fun p => (p.1, v, p.2.2)) (fun p _ => rfl)]
theorem erase_map : ∀ (m : Ents) (i : Nat), (m.map mkE).eraseIdx i = (m.eraseIdx i).map mkE
  | [], _ => rfl
  | _ :: _, 0 => rfl
  | p :: m, i + 1 => by rw [List.map_cons, List.eraseIdx_cons_succ, List.eraseIdx_cons_succ, List.map_cons, erase_map m i]
/-- delete(m, k). -/
theorem run_delete (w : World) (mb : Nat) (m : Ents) (clock : Nat) (k : Int) (i : Nat) (x : Int × Nat) (ty : TypeId) (h : w.heap[mb]? = some (MO m clock)) (hl : look k m 0 = some (i, x)) :
    (Builtin.delete_ #[53, 3] ty #[.map (some mb), .int .i64 k]).run Try.prog w = .ok (.tuple #[]) (setB w mb (MO (m.eraseIdx i) clock)) := by
  have hf := MapKept.run_findKey (P := Try.prog) (w := w) (kt := 3) Try.underlying3 (findNow_look k m 0)
  unfold MO at h
  obtain ⟨j, e, hj⟩ := look_at k m 0 i x hl
  obtain rfl : i = j := by omega
  have hlt := (List.getElem?_eq_some_iff.1 hj).1
  simp [Builtin.delete_, run_underlying Try.underlying53, MapKept.run_getObj_map h, MapKept.run_checkKey Try.underlying3 (isKey k), hf, hl, MapKept.run_setObj_map _ h, Result.andThen, setB, MO]
  rw [erase_map]
def val : Ents → Int → Option Int
  | [], _ => none
  | p :: m, k => if k = p.1 then some p.2.1 else val m k
theorem look_val (k : Int) : ∀ (m : Ents) (s : Nat), (look k m s).map (fun q => q.2.1) = val m k
  | [], _ => rfl
  | p :: m, s => by
    rw [look, val]
    by_cases e : k = p.1
    · rw [if_pos e, if_pos e]; rfl
    · rw [if_neg e, if_neg e, look_val k m (s + 1)]
theorem val_modify (k v : Int) : ∀ (m : Ents) (s j : Nat) (x : Int × Nat), look k m s = some (s + j, x) → ∀ k', val (m.modify j fun p => (p.1, v, p.2.2)) k' = if k' = k then some v else val m k'
  | [], _, _, _, h, _ => by simp [look] at h
  | p :: m, s, j, x, h, k' => by
    rw [look] at h
    by_cases e : k = p.1
    · rw [if_pos e] at h
      simp only [Option.some.injEq, Prod.mk.injEq] at h
      obtain rfl : j = 0 := by omega
      rw [List.modify_zero_cons, val, val, ← e]
      by_cases e2 : k' = k
      · rw [if_pos e2, if_pos e2]
      · rw [if_neg e2, if_neg e2, if_neg e2]
    · rw [if_neg e] at h
      obtain ⟨j', hj, -⟩ := look_at k m (s + 1) _ x h
      obtain rfl : j = j' + 1 := by omega
      rw [List.modify_succ_cons, val, val, val_modify k v m (s + 1) j' x (by rw [h]; congr 2) k']
      by_cases e2 : k' = k
      · rw [if_neg (by rw [e2]; exact e), if_pos e2, if_pos e2]
      · rw [if_neg e2, if_neg e2]
theorem val_append (k v : Int) (c : Nat) : ∀ (m : Ents) (s : Nat), look k m s = none → ∀ k', val (m ++ [(k, v, c)]) k' = if k' = k then some v else val m k'
  | [], _, _, k' => rfl
  | p :: m, s, h, k' => by
    rw [look] at h
    by_cases e : k = p.1
    · rw [if_pos e] at h; cases h
    · rw [if_neg e] at h
      rw [List.cons_append, val, val, val_append k v c m (s + 1) h k']
      by_cases e2 : k' = k
      · rw [if_neg (by rw [e2]; exact e), if_pos e2, if_pos e2]
      · rw [if_neg e2, if_neg e2]
theorem val_notMem (k : Int) : ∀ (m : Ents), k ∉ m.map (·.1) → val m k = none
  | [], _ => rfl
  | p :: m, h => by
    rw [List.map_cons, List.mem_cons, not_or] at h
    rw [val, if_neg h.1, val_notMem k m h.2]
theorem val_erase (k : Int) : ∀ (m : Ents) (s j : Nat) (x : Int × Nat), (m.map (·.1)).Nodup → look k m s = some (s + j, x) → ∀ k', val (m.eraseIdx j) k' = if k' = k then none else val m k'
  | [], _, _, _, _, h, _ => by simp [look] at h
  | p :: m, s, j, x, hn, h, k' => by
    rw [look] at h
    rw [List.map_cons, List.nodup_cons] at hn
    by_cases e : k = p.1
    · rw [if_pos e] at h
      simp only [Option.some.injEq, Prod.mk.injEq] at h
      obtain rfl : j = 0 := by omega
      rw [List.eraseIdx_cons_zero, val, ← e]
      by_cases e2 : k' = k
      · rw [if_pos e2, e2]
        exact val_notMem k m (by rw [e]; exact hn.1)
      · rw [if_neg e2, if_neg e2]
    · rw [if_neg e] at h
      obtain ⟨j', hj, -⟩ := look_at k m (s + 1) _ x h
      obtain rfl : j = j' + 1 := by omega
      rw [List.eraseIdx_cons_succ, val, val, val_erase k m (s + 1) j' x hn.2 (by rw [h]; congr 2) k']
      by_cases e2 : k' = k
      · rw [if_neg (by rw [e2]; exact e), if_pos e2, if_pos e2]
      · rw [if_neg e2, if_neg e2]
theorem keys_modify (v : Int) (m : Ents) (j : Nat) : (m.modify j fun p => (p.1, v, p.2.2)).map (·.1) = m.map (·.1) := by
  apply List.ext_getElem?
  intro i
  rw [List.getElem?_map, List.getElem?_map, List.getElem?_modify]
  cases m[i]? with
  | none => rfl
  | some p => by_cases e : j = i <;> simp [e]
theorem borns_modify (v : Int) (m : Ents) (j : Nat) : (m.modify j fun p => (p.1, v, p.2.2)).map (·.2.2) = m.map (·.2.2) := by
  apply List.ext_getElem?
  intro i
  rw [List.getElem?_map, List.getElem?_map, List.getElem?_modify]
  cases m[i]? with
  | none => rfl
  | some p => by_cases e : j = i <;> simp [e]
theorem born_find (b : Nat) : ∀ (m : Ents) (i : Nat) (p : Int × Int × Nat), (m.map (·.2.2)).Nodup → m[i]? = some p → p.2.2 = b → m.findIdx? (fun p => p.2.2 == b) = some i
  | [], _, _, _, h, _ => by simp at h
  | q :: m, 0, p, _, h, hb => by
    simp at h
    subst h
    simp [List.findIdx?_cons, hb]
  | q :: m, i + 1, p, hn, h, hb => by
    rw [List.map_cons, List.nodup_cons] at hn
    rw [List.getElem?_cons_succ] at h
    have hm : p ∈ m := List.mem_of_getElem? h
    have hne : q.2.2 ≠ b := fun e => hn.1 (by rw [e, ← hb]; exact List.mem_map_of_mem hm)
    have hne' : (q.2.2 == b) = false := by simpa using hne
    rw [List.findIdx?_cons, hne', born_find b m i p hn.2 h hb]
    rfl
/-- A map in memory. -/
structure Sound (m : Ents) (clock : Nat) : Prop where
  keys : (m.map (·.1)).Nodup
  borns : (m.map (·.2.2)).Nodup
  less : ∀ p ∈ m, p.2.2 < clock
structure MapIs (w : World) (mb : Nat) (f : Int → Option Int) : Prop where
  out : ∃ m clock, w.heap[mb]? = some (MO m clock) ∧ Sound m clock ∧ ∀ k, val m k = f k
theorem Sound.modify {m : Ents} {clock : Nat} (h : Sound m clock) (j : Nat) (v : Int) : Sound (m.modify j fun p => (p.1, v, p.2.2)) clock :=
  ⟨by rw [keys_modify]; exact h.keys, by rw [borns_modify]; exact h.borns, fun p hp => by
    have : p.2.2 ∈ (m.modify j fun p => (p.1, v, p.2.2)).map (·.2.2) := List.mem_map_of_mem hp
    rw [borns_modify] at this
    obtain ⟨q, hq, e⟩ := List.mem_map.1 this
    rw [← e]
    exact h.less q hq⟩
theorem Sound.snoc {m : Ents} {clock : Nat} (h : Sound m clock) (k v : Int) (hl : look k m 0 = none) : Sound (m ++ [(k, v, clock)]) (clock + 1) := by
  refine ⟨?_, ?_, fun p hp => ?_⟩
  · rw [List.map_append, List.nodup_append]
    refine ⟨h.keys, by simp, ?_⟩
    intro a ha b hb
    obtain ⟨p, hp, rfl⟩ := List.mem_map.1 ha
    simp only [List.map_cons, List.map_nil, List.mem_singleton] at hb
    rw [hb]
    exact look_none k m 0 hl p hp
  · rw [List.map_append, List.nodup_append]
    refine ⟨h.borns, by simp, ?_⟩
    intro a ha b hb
    obtain ⟨p, hp, rfl⟩ := List.mem_map.1 ha
    simp at hb
    subst hb
    exact Nat.ne_of_lt (h.less p hp)
  · rcases List.mem_append.1 hp with hp | hp
    · have := h.less p hp; omega
    · simp at hp; subst hp; exact Nat.lt_succ_self _
theorem Sound.erase {m : Ents} {clock : Nat} (h : Sound m clock) (j : Nat) : Sound (m.eraseIdx j) clock := by
  have hs := List.eraseIdx_sublist m j
  exact ⟨(hs.map _).nodup h.keys, (hs.map _).nodup h.borns, fun p hp => h.less p (hs.subset hp)⟩
theorem MapIs.found {w : World} {mb : Nat} {f : Int → Option Int} (h : MapIs w mb f) (k : Int) :
    (Instr.lookup 53 (.map (some mb)) (.int .i64 k) true).run Try.prog w = .ok (.tuple #[.int .i64 ((f k).getD 0), .bool (f k).isSome]) w := by
  obtain ⟨m, clock, hm, -, hf⟩ := h.out
  have hl := look_val k m 0
  rw [hf k] at hl
  rw [run_lookup w mb m clock k hm, hl, ← hl]
  simp
theorem MapIs.update {w : World} {mb : Nat} {f : Int → Option Int} (h : MapIs w mb f) (k v : Int) :
    ∃ o, (Instr.mapUpdate 53 (.map (some mb)) (.int .i64 k) (.int .i64 v)).run Try.prog w = .ok () (setB w mb o) ∧ MapIs (setB w mb o) mb fun x => if x = k then some v else f x := by
  obtain ⟨m, clock, hm, hs, hf⟩ := h.out
  refine ⟨_, run_mapUpdate w mb m clock k v hm, _, _, setB_at hm, ?_, fun x => ?_⟩
  · unfold upd clk
    cases hl : look k m 0 with
    | none => simpa using hs.snoc k v hl
    | some q => simpa using hs.modify _ v
  · unfold upd
    cases hl : look k m 0 with
    | none => rw [val_append k v clock m 0 hl x, hf]
    | some q => rw [val_modify k v m 0 q.1 q.2 (by rw [hl]; simp) x, hf]
/-- The entry of a key that is there, and what storing into it makes. -/
theorem MapIs.entry {w : World} {mb : Nat} {f : Int → Option Int} (h : MapIs w mb f) (k v0 : Int) (hk : f k = some v0) :
    ∃ b : Nat, (Instr.mapEntry 53 (.map (some mb)) (.int .i64 k)).run Try.prog w = .ok (.tuple #[.int .i64 v0, .int .i64 (b : Int)]) w ∧
      ∀ v, ∃ o, (Instr.entryStore 53 (.map (some mb)) (.int .i64 (b : Int)) (.int .i64 v)).run Try.prog w = .ok () (setB w mb o) ∧ MapIs (setB w mb o) mb fun x => if x = k then some v else f x := by
  obtain ⟨m, clock, hm, hs, hf⟩ := h.out
  have hv := look_val k m 0
  rw [hf k, hk] at hv
  cases hl : look k m 0 with
  | none => rw [hl] at hv; cases hv
  | some q =>
    obtain ⟨i, x⟩ := q
    rw [hl] at hv
    obtain ⟨j, e, hj⟩ := look_at k m 0 i x hl
    obtain rfl : i = j := by omega
    have hx : x.1 = v0 := by simpa using hv
    refine ⟨x.2, by rw [run_mapEntry w mb m clock k i x hm hl, hx], fun v => ⟨_, run_entryStore w mb m clock x.2 v i hm (born_find x.2 m i _ hs.borns hj rfl), _, _, setB_at hm, hs.modify i v, fun y => ?_⟩⟩
    rw [val_modify k v m 0 i x (by rw [hl]; simp) y, hf]
theorem MapIs.delete {w : World} {mb : Nat} {f : Int → Option Int} (h : MapIs w mb f) (k v0 : Int) (hk : f k = some v0) (ty : TypeId) :
    ∃ o, (Builtin.delete_ #[53, 3] ty #[.map (some mb), .int .i64 k]).run Try.prog w = .ok (.tuple #[]) (setB w mb o) ∧ MapIs (setB w mb o) mb fun x => if x = k then none else f x := by
  obtain ⟨m, clock, hm, hs, hf⟩ := h.out
  have hv := look_val k m 0
  rw [hf k, hk] at hv
  cases hl : look k m 0 with
  | none => rw [hl] at hv; cases hv
  | some q =>
    obtain ⟨i, x⟩ := q
    refine ⟨_, run_delete w mb m clock k i x ty hm hl, _, _, setB_at hm, hs.erase i, fun y => ?_⟩
    rw [val_erase k m 0 i x hs.keys (by rw [hl]; simp) y, hf]
end Go.Proofs.Ytmanlmhiiijlmaa
