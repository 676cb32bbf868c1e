/- A region that draws its order, all of whose operations but the last only read (and whose callees may draw), the last one waiting for all others: one walk in the order of the text, then the last operation. -/
import Derived.Deep.QuietTactic
import Derived.StillTail
namespace Go.Proofs.YtkmbpakhbicnaaaDoor
open Go

section
variable {P : Program} {ops : Array Oper} {md : Region.Mode} {C : World → Prop} {n : Nat}

def depsB (md : Region.Mode) (ops : Array Oper) : Bool :=
  (List.range ops.size).all fun i => (ops[i]?).elim true fun o => o.after.all fun e => !Region.binds md e || decide (e.on < i)

theorem depsB_spec (h : depsB md ops = true) {i : Nat} {o : Oper} (ho : ops[i]? = some o) : ∀ e ∈ o.after, Region.binds md e = true → e.on < i := by
  intro e he hb
  have h1 := List.all_eq_true.1 h i (List.mem_range.2 (Array.getElem?_eq_some_iff.1 ho).1)
  rw [ho] at h1
  have h2 := Array.all_eq_true'.1 h1 e he
  simpa [hb] using h2

/-- All are listed, if none is ready. -/
theorem all_listed {listed : Array Bool} (hd : depsB md ops = true) (hs : listed.size = ops.size) (hr : Region.ready md ops listed = []) :
    ∀ i, i < ops.size → listed.getD i true = true := by
  intro i
  induction i using Nat.strongRecOn with
  | _ i ih =>
    intro hi
    cases hl : listed.getD i true with
    | true => rfl
    | false =>
      exfalso
      obtain ⟨o, ho⟩ : ∃ o, ops[i]? = some o := ⟨_, Array.getElem?_eq_getElem hi⟩
      have : i ∈ Region.ready md ops listed := mem_ready.2 ⟨hl, o, ho, fun e he hb => by
        have hlt := depsB_spec hd ho e he hb
        have h1 := ih e.on hlt (by omega)
        have hlt2 : e.on < listed.size := by omega
        simpa [hlt2] using h1⟩
      rw [hr] at this
      cases this

theorem getD_push {listed : Array Bool} (i : Nat) (d : Bool) (h : i < listed.size) : (listed.push false).getD i d = listed.getD i d := by
  have h' : i < (listed.push false).size := by simp; omega
  simp [h, Array.getElem?_push, Nat.ne_of_lt h]
theorem getD_push_false {listed : Array Bool} (i : Nat) : (listed.push false).getD i false = listed.getD i false := by
  by_cases h : i < listed.size
  · exact getD_push i false h
  · simp [Array.getElem?_push, Array.getElem?_eq_none (Nat.le_of_not_lt h)]
    split <;> simp_all
theorem set_push {listed : Array Bool} {i : Nat} (h : i < listed.size) : (listed.setIfInBounds i true).push false = (listed.push false).setIfInBounds i true := by
  apply Array.ext_getElem?
  intro j
  simp only [Array.getElem?_push, Array.getElem?_setIfInBounds, Array.size_setIfInBounds, Array.size_push]
  by_cases e : i = j
  · subst e
    simp [h, Nat.ne_of_lt h, Nat.lt_succ_of_lt h]
  · simp [e]

/-- The operations behind one of the first n, in the whole region. -/
structure Cut (md : Region.Mode) (pre ops : Array Oper) (o : Oper) (n : Nat) : Prop where
  size : pre.size = n
  sizes : ops.size = n + 1
  same : ∀ i, i < n → ops[i]? = pre[i]?
  last : ops[n]? = some o
  bare : o.guard = none
  bares : ∀ (i : Nat) (oi : Oper), pre[i]? = some oi → oi.guard = none
  deps : depsB md ops = true
  sink : Region.sinkB md ops n = true
  chain : Region.chainB md ops n = true

theorem wanted_bare {o : Oper} {f : Nat → Option Bool} (h : o.guard = none) : Region.wanted o f = true := by
  simp [Region.wanted, h]

variable {pre : Array Oper} {o : Oper}
theorem ready_lt (hc : Cut md pre ops o n) {listed : Array Bool} (hs : listed.size = n) {i : Nat} (hi : i < n) : i ∈ Region.ready md ops (listed.push false) ↔ i ∈ Region.ready md pre listed := by
  rw [mem_ready, mem_ready, getD_push i true (by omega), hc.same i hi]
  simp only [getD_push_false]

theorem last_step (hc : Cut md pre ops o n) {listed : Array Bool} (hs : listed.size = n) (hall : ∀ i, i < n → listed.getD i true = true) {Q : Exit → Act → World → Prop} {a : Act} {w : World}
    (hq : wpOp P ops Q n (fun a w => Q .normal a w) a w) (fuel : Nat) : wpAny P md ops Q (fuel + 1) (listed.push false) a w := by
  have hn : n ∈ Region.ready md ops (listed.push false) := mem_ready.2 ⟨by subst hs; simp, o, hc.last, fun e he hb => by
    have hlt := depsB_spec hc.deps hc.last e he hb
    rw [getD_push_false]
    have h1 := hall e.on hlt
    have hlt2 : e.on < listed.size := by omega
    simpa [hlt2] using h1⟩
  have honly : ∀ i, i ∈ Region.ready md ops (listed.push false) → i = n := fun i hi => by
    obtain ⟨h0, oi, hoi, _⟩ := mem_ready.1 hi
    have hlt := (Array.getElem?_eq_some_iff.1 hoi).1
    have hsz := hc.sizes
    by_cases e : i < n
    · rw [getD_push i true (by omega), hall i e] at h0
      cases h0
    · omega
  have hend : Region.ready md ops ((listed.push false).setIfInBounds n true) = [] := by
    apply List.eq_nil_iff_forall_not_mem.2
    intro i hi
    obtain ⟨h0, oi, hoi, _⟩ := mem_ready.1 hi
    have hlt := (Array.getElem?_eq_some_iff.1 hoi).1
    have hsz := hc.sizes
    by_cases e : n = i
    · subst e
      simp [hs] at h0
    · rw [getD_set_ne true e, getD_push i true (by omega), hall i (by omega)] at h0
      cases h0
  refine ⟨fun h => absurd hn (by rw [h]; simp), fun i hi => ?_⟩
  obtain rfl := honly i hi
  refine wpOp_mono (fun a w h => ?_) hq
  cases fuel with
  | zero => exact ⟨hend, h⟩
  | succ fuel => exact ⟨fun _ => h, by rw [hend]; simp⟩

theorem any_last (hc : Cut md pre ops o n) {QQ : Act → Prop} {Q : Exit → Act → World → Prop} (hQ : ∀ a w, C w → QQ a → wpOp P ops Q n (fun a w => Q .normal a w) a w) :
    ∀ (fuel : Nat) (listed : Array Bool) (a : Act) (w : World), listed.size = n → HeadInv md ops n (listed.push false) → C w → wpAnyQ P md pre C QQ fuel listed a → wpAny P md ops Q (fuel + 1) (listed.push false) a w := by
  have hall : ∀ (listed : Array Bool), listed.size = n → Region.ready md pre listed = [] → ∀ i, i < n → listed.getD i true = true := fun listed hs hr i hi => by
    refine all_listed (md := md) (ops := pre) ?_ (by rw [hs, hc.size]) hr i (by rw [hc.size]; exact hi)
    refine List.all_eq_true.2 fun j hj => ?_
    have hj' : j < n := by rw [← hc.size]; exact List.mem_range.1 hj
    have h1 := List.all_eq_true.1 hc.deps j (List.mem_range.2 (by rw [hc.sizes]; omega))
    rwa [hc.same j hj'] at h1
  intro fuel
  induction fuel with
  | zero =>
    intro listed a w hs _ hC h
    exact last_step hc hs (hall listed hs h.1) (hQ a w hC h.2) 0
  | succ fuel ih =>
    intro listed a w hs hi hC h
    by_cases hr : Region.ready md pre listed = []
    · exact last_step hc hs (hall listed hs hr) (hQ a w hC (h.1 hr)) (fuel + 1)
    · obtain ⟨j, hj⟩ := List.exists_mem_of_ne_nil _ hr
      have hjn : j < n := by
        obtain ⟨_, oj, hoj, _⟩ := mem_ready.1 hj
        rw [← hc.size]
        exact (Array.getElem?_eq_some_iff.1 hoj).1
      have hnot : n ∉ Region.ready md ops (listed.push false) :=
        tail_waits hc.sink hc.chain (by rw [hc.sizes]; omega) hi (n - j) j rfl hjn (by rw [getD_push j true (by omega)]; exact (mem_ready.1 hj).1) n (Nat.le_refl _)
      refine ⟨fun h0 => ?_, fun i hi' => ?_⟩
      · have := (ready_lt hc hs hjn).2 hj
        rw [h0] at this
        cases this
      · have hin : i < n := by
          obtain ⟨_, oi, hoi, _⟩ := mem_ready.1 hi'
          have hlt := (Array.getElem?_eq_some_iff.1 hoi).1
          have hsz := hc.sizes
          rcases Nat.lt_or_ge i n with h' | h'
          · exact h'
          · obtain rfl : i = n := by omega
            exact absurd hi' hnot
        have h2 := h.2 i ((ready_lt hc hs hin).1 hi')
        have h3 : wpOp P pre Q i (fun a w => wpAny P md ops Q (fuel + 1) ((listed.push false).setIfInBounds i true) a w) a w :=
          wpOp_of_qOp hC (fun a' w' hC' hK => by
            rw [← set_push (by omega)]
            exact ih _ a' w' (by simpa using hs) (by rw [set_push (by omega)]; exact hi.set hi' hin) hC' hK) h2
        unfold wpOp at h3 ⊢
        rw [hc.same i hin]
        cases hoi : pre[i]? with
        | none => rw [hoi] at h3; exact h3
        | some oi =>
          rw [hoi] at h3
          simp only [wanted_bare (hc.bares i oi hoi), if_true] at h3 ⊢
          exact h3

/-- THE LAW: the operations l only read, the last one waits for all. -/
theorem wp_region_quiet_last {id : Nat} {Q : Exit → Act → World → Prop} {a : Act} {w : World} {l : List Oper} {o : Oper} (hm : P.follows .mixedOrders = true)
    (hc : Cut .any l.toArray (l ++ [o]).toArray o l.length) (hB : Region.lexB .any l.toArray = true)
    (h : wpQuiet P l.toArray (fun w' => ∃ n, w' = w.drewN n) (fun a' => ∀ w', (∃ n, w' = w.drewN n) → o.wp P a' w' (fun a w => Q .normal a w) Q) l a) : (Code.region id (l ++ [o]).toArray true).wp P Q a w := by
  refine wp_region_any hm ?_
  have h0 : Array.replicate (l ++ [o]).toArray.size false = (Array.replicate l.length false).push false := by simp [Array.replicate_succ]
  rw [h0, show (l ++ [o]).toArray.size = l.length + 1 by simp]
  simp only [Region.lexB, Bool.and_eq_true] at hB
  refine any_last (C := fun w' => ∃ n, w' = w.drewN n) hc (QQ := fun a' => ∀ w', (∃ n, w' = w.drewN n) → o.wp P a' w' (fun a w => Q .normal a w) Q) (fun a' w' hC hq => ?_) l.length _ a _ (by simp) ?_ ⟨1, rfl⟩ ?_
  · unfold wpOp
    rw [hc.last]
    simp only [wanted_bare hc.bare, if_true]
    exact .inl (hq w' hC)
  · refine ⟨by simp, fun j oj hj hl => ?_, fun t ht ht' => ?_⟩
    · rw [getD_push_false, Array.getD_eq_getD_getElem?, Array.getElem?_replicate] at hl
      split at hl <;> simp at hl
    · have hts : t < l.length + 1 := by simpa using ht'
      rw [← h0, Array.getD_eq_getD_getElem?, Array.getElem?_replicate, if_pos (by simpa using hts)]
      rfl
  · have := wpAnyQ_lex (P := P) (C := fun w' => ∃ n, w' = w.drewN n) (md := .any) hB.1 l 0 (Array.replicate l.length false) a (by simp) (by simpa using hB.2) h
    simpa using this

/-- As the walk meets it: the operations written out; the first n only read. -/
theorem wp_region_quiet_last_lit {id : Nat} {Q : Exit → Act → World → Prop} {a : Act} {w : World} {L : List Oper} (n : Nat) (o : Oper) (hl : L = L.take n ++ [o]) (hm : P.follows .mixedOrders = true)
    (hg : (L.take n).all (fun o => o.guard.isNone) = true) (hgo : o.guard = none) (hd : depsB .any L.toArray = true) (hs : Region.sinkB .any L.toArray n = true) (hch : Region.chainB .any L.toArray n = true)
    (hB : Region.lexB .any (L.take n).toArray = true)
    (h : wpQuiet P (L.take n).toArray (fun w' => ∃ n, w' = w.drewN n) (fun a' => ∀ w', (∃ n, w' = w.drewN n) → o.wp P a' w' (fun a w => Q .normal a w) Q) (L.take n) a) : (Code.region id L.toArray true).wp P Q a w := by
  have hn : L.length = (L.take n).length + 1 := by
    have := congrArg List.length hl
    simpa using this
  have hn2 : (L.take n).length = n := by
    rw [List.length_take] at hn ⊢
    omega
  have hc : Cut .any (L.take n).toArray (L.take n ++ [o]).toArray o (L.take n).length := by
    refine ⟨by simp, by simp, fun i hi => ?_, by simp, hgo, fun i oi hoi => ?_, by rw [← hl]; exact hd, by rw [← hl, hn2]; exact hs, by rw [← hl, hn2]; exact hch⟩
    · simp only [List.getElem?_toArray]
      rw [List.getElem?_append_left hi]
    · have hmem : oi ∈ L.take n := List.mem_of_getElem? (by simpa using hoi)
      have := List.all_eq_true.1 hg oi hmem
      exact Option.isNone_iff_eq_none.1 this
  have key := wp_region_quiet_last (id := id) (Q := Q) (a := a) (w := w) hm hc hB h
  rwa [← hl] at key

end
end Go.Proofs.YtkmbpakhbicnaaaDoor
