/- The agenda as a sorted list; where each ticket stands. Plain. -/
import Derived.Test.YtmanlmhiiijlmaaPile
namespace Go.Proofs.Ytmanlmhiiijlmaa
theorem ltE_iff (x y : En) : ltE x y = true ↔ x.2.1 < y.2.1 ∨ (x.2.1 = y.2.1 ∧ x.1 < y.1) := by
  unfold ltE
  simp
theorem ltE_no (x y : En) : ltE x y = false ↔ y.2.1 < x.2.1 ∨ (y.2.1 = x.2.1 ∧ y.1 ≤ x.1) := by
  rw [← Bool.not_eq_true, ltE_iff]
  omega
theorem ordE : HL.Ord ltE := ⟨fun a b h => by rw [ltE_iff] at h; rw [ltE_no]; omega, fun a b c h k => by rw [ltE_no] at *; omega⟩
theorem ltE_trans {a b c : En} (h : ltE a b = true) (k : ltE b c = true) : ltE a c = true := by
  rw [ltE_iff] at *; omega
theorem ltE_total {a b : En} (hn : a.1 ≠ b.1) (h : ltE a b = false) : ltE b a = true := by
  rw [ltE_no] at h; rw [ltE_iff]; omega
def Sorted (L : List En) : Prop := L.Pairwise fun x y => ltE x y = true
def ins (e : En) : List En → List En
  | [] => [e]
  | x :: L => if ltE e x then e :: x :: L else x :: ins e L
def del (t : Int) (L : List En) : List En := L.filter fun e => e.1 != t
theorem ins_perm (e : En) : ∀ L, (ins e L).Perm (e :: L)
  | [] => .refl _
  | x :: L => by
    rw [ins]
    split
    · exact .refl _
    · exact ((ins_perm e L).cons x).trans (.swap _ _ _)
theorem ins_sorted (e : En) : ∀ L, Sorted L → (∀ x ∈ L, x.1 ≠ e.1) → Sorted (ins e L)
  | [], _, _ => List.pairwise_singleton _ _
  | x :: L, h, hn => by
    obtain ⟨h1, h2⟩ := List.pairwise_cons.1 h
    rw [ins]
    split
    · rename_i hlt
      refine List.pairwise_cons.2 ⟨fun y hy => ?_, h⟩
      rcases List.mem_cons.1 hy with rfl | hy
      · exact hlt
      · exact ltE_trans hlt (h1 y hy)
    · rename_i hlt
      refine List.pairwise_cons.2 ⟨fun y hy => ?_, ins_sorted e L h2 fun y hy => hn y (List.mem_cons_of_mem _ hy)⟩
      rcases List.mem_cons.1 ((ins_perm e L).mem_iff.1 hy) with rfl | hy
      · exact ltE_total (fun e => hn x (List.mem_cons_self ..) e.symm) (by simpa using hlt)
      · exact h1 y hy
theorem del_sorted {L : List En} (t : Int) (h : Sorted L) : Sorted (del t L) := List.Pairwise.sublist List.filter_sublist h
/-- Where each ticket stands. -/
def Plc (l : List En) (f : Int → Option Int) : Prop := ∀ t z, f t = some z ↔ ∃ i : Nat, z = (i : Int) ∧ (l.map (·.1))[i]? = some t
theorem Plc.at_ {l : List En} {f : Int → Option Int} (h : Plc l f) {i : Nat} {e : En} (hi : l[i]? = some e) : f e.1 = some (i : Int) := (h _ _).2 ⟨i, rfl, by rw [List.getElem?_map, hi]; rfl⟩
theorem Plc.inj {l : List En} {f : Int → Option Int} (h : Plc l f) {i j : Nat} {t : Int} (hi : (l.map (·.1))[i]? = some t) (hj : (l.map (·.1))[j]? = some t) : i = j := by
  have a := (h t i).2 ⟨i, rfl, hi⟩
  have b := (h t j).2 ⟨j, rfl, hj⟩
  rw [a] at b
  have := Option.some.inj b
  omega
theorem Plc.none_ {l : List En} {f : Int → Option Int} (h : Plc l f) {t : Int} : f t = none ↔ ∀ e ∈ l, e.1 ≠ t := by
  constructor
  · rintro hn e he rfl
    obtain ⟨i, hi⟩ := List.getElem?_of_mem he
    rw [h.at_ hi] at hn
    cases hn
  · intro hn
    cases hf : f t with
    | none => rfl
    | some z =>
      obtain ⟨i, -, hi⟩ := (h t z).1 hf
      rw [List.getElem?_map] at hi
      obtain ⟨e, he, rfl⟩ := Option.map_eq_some_iff.1 hi
      exact absurd rfl (hn e (List.mem_of_getElem? he))
theorem Plc.some_ {l : List En} {f : Int → Option Int} (h : Plc l f) {t z : Int} (hf : f t = some z) : ∃ i : Nat, ∃ e, z = (i : Int) ∧ l[i]? = some e ∧ e.1 = t := by
  obtain ⟨i, rfl, hi⟩ := (h t z).1 hf
  rw [List.getElem?_map] at hi
  obtain ⟨e, he, rfl⟩ := Option.map_eq_some_iff.1 hi
  exact ⟨i, e, rfl, he, rfl⟩
theorem Plc.congr {l : List En} {f g : Int → Option Int} (h : Plc l f) (e : ∀ t, g t = f t) : Plc l g := fun t z => by rw [e]; exact h t z
theorem Plc.nodup {l : List En} {f : Int → Option Int} (h : Plc l f) : (l.map (·.1)).Nodup := by
  refine List.pairwise_iff_getElem.2 fun i j hi hj hij e => ?_
  have := h.inj (List.getElem?_eq_getElem hi) ((List.getElem?_eq_getElem hj).trans (congrArg some e.symm))
  omega
abbrev dE : En := (0, 0, ⟨#[]⟩)
theorem swap_at (l : List En) (i j k : Nat) (hi : i < l.length) (hj : j < l.length) : (HL.swap dE l i j)[k]? = if k = j then l[i]? else if k = i then l[j]? else l[k]? := by
  unfold HL.swap HL.g
  rw [List.getD_eq_getElem?_getD, List.getD_eq_getElem?_getD, List.getElem?_eq_getElem hi, List.getElem?_eq_getElem hj, List.getElem?_set, List.getElem?_set]
  by_cases h1 : k = j
  · subst h1; simp [hj]
  · rw [if_neg (fun e => h1 e.symm), if_neg h1]
    by_cases h2 : k = i
    · subst h2; simp [hi]
    · rw [if_neg (fun e => h2 e.symm), if_neg h2]
theorem Plc.swap {l : List En} {f : Int → Option Int} (h : Plc l f) {i j : Nat} {x y : En} (hi : l[i]? = some x) (hj : l[j]? = some y) :
    Plc (HL.swap dE l i j) (fun t => if t = x.1 then some (j : Int) else if t = y.1 then some (i : Int) else f t) := by
  have il := (List.getElem?_eq_some_iff.1 hi).1
  have jl := (List.getElem?_eq_some_iff.1 hj).1
  have mi : (l.map (·.1))[i]? = some x.1 := by rw [List.getElem?_map, hi]; rfl
  have mj : (l.map (·.1))[j]? = some y.1 := by rw [List.getElem?_map, hj]; rfl
  have G : ∀ k, ((HL.swap dE l i j).map (·.1))[k]? = if k = j then some x.1 else if k = i then some y.1 else (l.map (·.1))[k]? := fun k => by
    rw [List.getElem?_map, swap_at l i j k il jl, hi, hj]
    split
    · rfl
    · split
      · rfl
      · rw [List.getElem?_map]
  intro t z
  show (if t = x.1 then some (j : Int) else if t = y.1 then some (i : Int) else f t) = some z ↔ _
  constructor
  · intro hf
    by_cases h1 : t = x.1
    · rw [if_pos h1] at hf
      exact ⟨j, (Option.some.inj hf).symm, by rw [G, if_pos rfl, h1]⟩
    · rw [if_neg h1] at hf
      by_cases h2 : t = y.1
      · rw [if_pos h2] at hf
        refine ⟨i, (Option.some.inj hf).symm, ?_⟩
        rw [G]
        by_cases h3 : i = j
        · subst h3
          rw [mi] at mj
          exact absurd (h2.trans (Option.some.inj mj).symm) h1
        · rw [if_neg h3, if_pos rfl, h2]
      · rw [if_neg h2] at hf
        obtain ⟨k, hz, hk⟩ := (h t z).1 hf
        refine ⟨k, hz, ?_⟩
        rw [G, if_neg, if_neg, hk]
        · rintro rfl
          rw [mi] at hk
          exact h1 (Option.some.inj hk).symm
        · rintro rfl
          rw [mj] at hk
          exact h2 (Option.some.inj hk).symm
  · rintro ⟨k, rfl, hk⟩
    rw [G] at hk
    by_cases h1 : k = j
    · rw [if_pos h1] at hk
      rw [if_pos (Option.some.inj hk).symm, h1]
    · rw [if_neg h1] at hk
      by_cases h2 : k = i
      · rw [if_pos h2] at hk
        have ht := Option.some.inj hk
        rw [if_neg, if_pos ht.symm, h2]
        intro e
        rw [← ht] at e
        rw [e] at mj
        exact h1 (h2.trans (h.inj mi mj))
      · rw [if_neg h2] at hk
        rw [if_neg, if_neg]
        · exact (h t k).2 ⟨k, rfl, hk⟩
        · rintro rfl
          exact h1 (h.inj hk mj)
        · rintro rfl
          exact h2 (h.inj hk mi)
theorem Plc.push {l : List En} {f : Int → Option Int} (h : Plc l f) (e : En) (hn : ∀ x ∈ l, x.1 ≠ e.1) : Plc (l ++ [e]) (fun x => if x = e.1 then some (l.length : Int) else f x) := by
  intro t z
  rw [List.map_append, List.map_cons, List.map_nil]
  show (if t = e.1 then some (l.length : Int) else f t) = some z ↔ _
  constructor
  · intro hf
    by_cases h1 : t = e.1
    · rw [if_pos h1] at hf
      exact ⟨l.length, (Option.some.inj hf).symm, by rw [List.getElem?_append_right (by simp)]; simp [h1]⟩
    · rw [if_neg h1] at hf
      obtain ⟨k, hz, hk⟩ := (h t z).1 hf
      exact ⟨k, hz, by rw [List.getElem?_append_left (List.getElem?_eq_some_iff.1 hk).1, hk]⟩
  · rintro ⟨k, rfl, hk⟩
    by_cases hl : k < l.length
    · rw [List.getElem?_append_left (by simpa using hl)] at hk
      rw [if_neg]
      · exact (h t k).2 ⟨k, rfl, hk⟩
      · rintro rfl
        rw [List.getElem?_map] at hk
        obtain ⟨x, hx, ex⟩ := Option.map_eq_some_iff.1 hk
        exact hn x (List.mem_of_getElem? hx) ex
    · rw [List.getElem?_append_right (by simpa using hl)] at hk
      have h0 : k - (l.map (·.1)).length = 0 := by
        have := (List.getElem?_eq_some_iff.1 hk).1
        simpa using this
      rw [h0] at hk
      have hk2 : k = l.length := by rw [List.length_map] at h0; omega
      rw [if_pos (by simpa using hk.symm), hk2]
theorem Plc.pop {l : List En} {e : En} {f : Int → Option Int} (h : Plc (l ++ [e]) f) : Plc l (fun x => if x = e.1 then none else f x) := by
  have me : ((l ++ [e]).map (·.1))[l.length]? = some e.1 := by rw [List.getElem?_map]; simp
  intro t z
  show (if t = e.1 then none else f t) = some z ↔ _
  constructor
  · intro hf
    by_cases h1 : t = e.1
    · rw [if_pos h1] at hf; cases hf
    · rw [if_neg h1] at hf
      obtain ⟨k, hz, hk⟩ := (h t z).1 hf
      refine ⟨k, hz, ?_⟩
      have hkl := (List.getElem?_eq_some_iff.1 hk).1
      by_cases hl : k < l.length
      · rw [List.map_append, List.getElem?_append_left (by simpa using hl)] at hk
        exact hk
      · have : k = l.length := by simp at hkl; omega
        rw [this, me] at hk
        exact absurd (Option.some.inj hk).symm h1
  · rintro ⟨k, rfl, hk⟩
    have hkl := (List.getElem?_eq_some_iff.1 hk).1
    have hk' : ((l ++ [e]).map (·.1))[k]? = some t := by rw [List.map_append, List.getElem?_append_left hkl, hk]
    rw [if_neg]
    · exact (h t k).2 ⟨k, rfl, hk'⟩
    · rintro rfl
      have := h.inj hk' me
      rw [List.length_map] at hkl
      omega
theorem Plc.set {l : List En} {f : Int → Option Int} (h : Plc l f) {i : Nat} {x : En} (hi : l[i]? = some x) (y : En) (hy : y.1 = x.1) : Plc (l.set i y) f := by
  have : (l.set i y).map (·.1) = l.map (·.1) := by
    apply List.ext_getElem?
    intro k
    rw [List.getElem?_map, List.getElem?_map, List.getElem?_set]
    by_cases e : i = k
    · subst e
      rw [if_pos rfl, if_pos (List.getElem?_eq_some_iff.1 hi).1, hi]
      simp [hy]
    · rw [if_neg e]
  unfold Plc
  rw [this]
  exact h
/-- The head of a heap is the least. -/
theorem heap_head {h L : List En} {x : En} (hh : HL.IsHeap dE ltE h h.length) (hp : h.Perm (x :: L)) (hs : Sorted (x :: L)) : h[0]? = some x := by
  have hl := hp.length_eq
  rw [List.length_cons] at hl
  have h0 : h[0]? = some h[0] := List.getElem?_eq_getElem (by omega)
  have g0 : HL.g dE h 0 = h[0] := by unfold HL.g; rw [List.getD_eq_getElem?_getD, h0]; rfl
  rcases List.mem_cons.1 (hp.mem_iff.1 (List.mem_of_getElem? h0)) with e | hm
  · rw [h0, e]
  · have hlt := (List.pairwise_cons.1 hs).1 _ hm
    obtain ⟨k, hk⟩ := List.getElem?_of_mem (hp.mem_iff.2 (List.mem_cons_self (a := x) (l := L)))
    have := HL.heap_min dE ltE ordE hh k (List.getElem?_eq_some_iff.1 hk).1
    rw [g0] at this
    unfold HL.g at this
    rw [List.getD_eq_getElem?_getD, hk] at this
    simp only [Option.getD_some] at this
    rw [hlt] at this
    cases this
end Go.Proofs.Ytmanlmhiiijlmaa
