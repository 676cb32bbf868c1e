/- A slice of bytes that the program itself made: what it holds, wherever it begins in its block and whatever its capacity; a string's bytes appended to it. -/
import Derived.Test.YtkmbpakhbicnaaaDoorWWords
import Derived.Lib.AppendStr
import Derived.Lib.SmallJoins
import Derived.ArgAppend
namespace Go.Proofs.YtkmbpakhbicnaaaDoor
open Go.RowKit Go.Proofs.YtkmbpakhbicnaaaDoorW.PrintWords Go.Lib

/-- v is a slice of bytes that holds s, in a block from base on. -/
def Buf (w : World) (base : Nat) (e : TypeId) (v : Value) (s : ByteArray) : Prop :=
  (s.size = 0 ∧ v = .slice none 0 0) ∨
  ∃ g off cap cur, v = .slice (some ⟨g, off, none⟩) s.size cap ∧ base ≤ g ∧ w.heap[g]? = some (.cells cur e (0, 0)) ∧ s.size ≤ cap ∧ off + cap ≤ maxLen ∧ off + cap ≤ cur.size ∧ (cur.toList.drop off).take s.size = strCells s

section
variable {P : Program} {w w1 : World} {base : Nat} {e : TypeId} {v : Value} {s : ByteArray}

theorem Buf.nil (w : World) (base : Nat) (e : TypeId) (s : ByteArray) (hs : s.size = 0) : Buf w base e (.slice none 0 0) s := .inl ⟨hs, rfl⟩
theorem Buf.slice (h : Buf w base e v s) : ∃ A c, v = .slice A s.size c ∧ s.size ≤ c := by
  rcases h with ⟨h0, rfl⟩ | ⟨g, off, cap, cur, rfl, _, _, hc, _⟩
  · exact ⟨none, 0, by rw [h0], by omega⟩
  · exact ⟨_, cap, rfl, hc⟩
theorem Buf.max (h : Buf w base e v s) : s.size ≤ 9223372036854775807 := by
  rcases h with ⟨h0, rfl⟩ | ⟨g, off, cap, cur, rfl, _, _, hc, hm, _⟩
  · omega
  · simp only [maxLen] at hm; omega
theorem Buf.typed (h : Buf w base e v s) (k : Nat) (hk : v.ownBlock = some k) : base ≤ k ∧ k < w.heap.size ∧ ∃ cur, w.heap[k]? = some (.cells cur e (0, 0)) := by
  rcases h with ⟨h0, rfl⟩ | ⟨g, off, cap, cur, rfl, hb, hh, _⟩
  · simp [Value.ownBlock] at hk
  · obtain rfl : g = k := by simpa [Value.ownBlock] using hk
    exact ⟨hb, (Array.getElem?_eq_some_iff.1 hh).1, cur, hh⟩
theorem Buf.move (h : Buf w base e v s) (hm : ∀ k, v.ownBlock = some k → w1.heap[k]? = w.heap[k]?) : Buf w1 base e v s := by
  rcases h with h | ⟨g, off, cap, cur, rfl, hb, hh, r⟩
  · exact .inl h
  · exact .inr ⟨g, off, cap, cur, rfl, hb, (hm g (by simp [Value.ownBlock])).trans hh, r⟩
theorem Buf.lower {base' : Nat} (h : Buf w base e v s) (hb : base' ≤ base) : Buf w base' e v s := by
  rcases h with h | ⟨g, off, cap, cur, rfl, hb', r⟩
  · exact .inl h
  · exact .inr ⟨g, off, cap, cur, rfl, by omega, r⟩
theorem Buf.raise {base' : Nat} (h : Buf w base e v s) (hb : ∀ k, v.ownBlock = some k → base' ≤ k) : Buf w base' e v s := by
  rcases h with h | ⟨g, off, cap, cur, rfl, hb', r⟩
  · exact .inl h
  · exact .inr ⟨g, off, cap, cur, rfl, hb g (by simp [Value.ownBlock]), r⟩
theorem strCells_append (s y : ByteArray) : strCells (s ++ y) = strCells s ++ strCells y := by
  simp [strCells]
theorem size_app (s y : ByteArray) : (s ++ y).size = s.size + y.size := by simp
theorem buf_of_own {n : Nat} (h : w.ownsRow base e 1 v n (strCells s)) : Buf w base e v s := by
  have hn : n = s.size := by have := h.1; rw [strCells_length] at this; omega
  subst hn
  rcases h.2 with ⟨rfl, h0⟩ | ⟨g, cap, cur, rfl, hb, hh, hc, hm, hs, ht⟩
  · exact .inl ⟨h0, rfl⟩
  · exact .inr ⟨g, 0, cap, cur, rfl, hb, hh, hc, by omega, by omega, by simpa using ht⟩
/-- The cells that hold it. -/
theorem Buf.cell (h : Buf w base e v s) (j : Nat) (hj : j < s.size) : ∃ g off cap, v = .slice (some ⟨g, off, none⟩) s.size cap ∧ w.cell? ⟨g, off + j, none⟩ = some (.int .u8 (s[j]'hj).toNat) ∧ w.frozen? ⟨g, off + j, none⟩ = false := by
  rcases h with ⟨h0, rfl⟩ | ⟨g, off, cap, cur, rfl, hb, hh, hc, hm, hs, ht⟩
  · omega
  · refine ⟨g, off, cap, rfl, ?_, blk_frozen hh _⟩
    rw [Go.Joins.cell_of_block hh]
    have h1 : (strCells s)[j]? = some (.int .u8 (s[j]'hj).toNat) := by
      simp only [strCells, List.getElem?_map]
      have h2 : s.data.toList[j]? = some (s[j]'hj) := by
        rw [List.getElem?_eq_getElem (by simpa using hj)]
        rfl
      rw [h2]
      rfl
    rw [← ht, List.getElem?_take_of_lt hj, List.getElem?_drop] at h1
    simpa using h1
theorem Buf.reads (h : Buf w base e v s) : ∃ A c, v = .slice A s.size c ∧ s.size ≤ c ∧ (Kd.int .u8).C w A (bytesOf s).length (bytesOf s) := by
  rcases h with ⟨h0, rfl⟩ | ⟨g, off, cap, cur, rfl, hb, hh, hc, hm, hs, ht⟩
  · refine ⟨none, 0, by rw [h0], by omega, rfl, by rw [bytesOf_length]; omega, fun hp => ?_⟩
    rw [bytesOf_length] at hp
    omega
  · refine ⟨some ⟨g, off, none⟩, cap, rfl, hc, rfl, by rw [bytesOf_length]; simp only [maxLen] at hm; omega, fun hp => ⟨_, rfl, ?_⟩⟩
    intro j p hp
    have hj : j < s.size := by
      have := (List.getElem?_eq_some_iff.1 hp).1
      rwa [bytesOf_length] at this
    refine ⟨[.int .u8 p], rfl, rfl, ?_⟩
    intro i u hu
    match i, hu with
    | 0, hu =>
      simp at hu
      subst hu
      obtain ⟨g', off', cap', he, hcell, _⟩ := Buf.cell (v := .slice (some ⟨g, off, none⟩) s.size cap) (.inr ⟨g, off, cap, cur, rfl, hb, hh, hc, hm, hs, ht⟩) j hj
      simp only [Value.slice.injEq, Option.some.injEq, Addr.mk.injEq, true_and] at he
      obtain ⟨⟨rfl, rfl, _⟩, rfl⟩ := he
      have hp' : p = ((s[j]'hj).toNat : Int) := by
        simp only [bytesOf, List.getElem?_map] at hp
        have h2 : s.data.toList[j]? = some (s[j]'hj) := by
          rw [List.getElem?_eq_getElem (by simpa using hj)]
          rfl
        rw [h2] at hp
        simpa using hp.symm
      subst hp'
      have : (⟨g, off, none⟩ : Addr).add (j * (Kd.int .u8).sz + 0) = ⟨g, off + j, none⟩ := by
        rw [add_at]
        simp [Kd.int, Kd.scalar]
      rw [this]
      exact hcell

theorem data_bytes (s : ByteArray) : strOfNums (bytesOf s) = s := by
  unfold strOfNums bytesOf
  apply Go.WideShapes.bytes_inj
  simp [List.map_map, Function.comp_def]

/-- string(b). -/
theorem Buf.string (h : Buf w base e v s) {src dst : TypeId} (hs : P.underlying src = some (.slice e)) (he : P.underlying e = some (.int .u8)) (hd : P.underlying dst = some .string) :
    (convert src dst v).run P w = .ok (.string s) w := by
  obtain ⟨A, c, rfl, _, hC⟩ := h.reads
  have := Kd.C_string (P := P) (c := c) hs he hd hC
  rw [data_bytes, bytesOf_length] at this
  exact this

/-- Room: the string's bytes lie behind the others. -/
theorem run_room (t u ty : TypeId) (i : TypeInfo) (ht : P.underlying t = some (.slice e)) (hu : P.underlying u = some .string) (hi : P.info? e = some i) (hs1 : i.size = 1)
    (g off sLen sCap : Nat) (cur : Array Value) (hg : w.heap[g]? = some (.cells cur e (0, 0))) (y : ByteArray)
    (hroom : sLen + y.size ≤ sCap) (hfit : off + sLen + y.size ≤ cur.size) :
    (Builtin.append_ #[t, u] ty #[.slice (some ⟨g, off, none⟩) sLen sCap, .string y]).run P w =
      .ok (.slice (some ⟨g, off, none⟩) (sLen + y.size) sCap) (w.setRow g (cur.toList.take (off + sLen) ++ strCells y ++ cur.toList.drop (off + sLen + y.size)).toArray) := by
  have hf := run_firstCells_string (P := P) w 1 y
  have hst := run_storeCells_at P g (off + sLen) e (strCells y) 0 cur w hg (by simpa [strCells_length] using hfit) (strCells_oneCell y)
  simp only [Nat.add_zero, strCells_length] at hst
  simp [Builtin.append_, run_underlying ht, run_underlying hu, sizeOf, typeInfo, hi, hs1, Builtin.lenOf, hroom, hf, add_at, hst]

theorem Buf.append (h : Buf w base e v s) (t u ty : TypeId) (i : TypeInfo) (ht : P.underlying t = some (.slice e)) (hu : P.underlying u = some .string) (hi : P.info? e = some i) (hz : i.zero = some (.int .u8 0)) (hsize : i.size = 1) (hby : i.bytes = 1)
    (y : ByteArray) (hbytes : s.size + y.size ≤ 140737488355328) (hbase : base ≤ w.heap.size) :
    ∃ v' w', (Builtin.append_ #[t, u] ty #[v, .string y]).run P w = .ok v' w' ∧ Buf w' base e v' (s ++ y) ∧ w.grownBy w' v.ownBlock ∧ (v'.ownBlock = v.ownBlock ∨ ∃ b, v'.ownBlock = some b ∧ w.heap.size ≤ b) := by
  have hmax : s.size + y.size ≤ maxLen := by simp only [maxLen]; omega
  rcases h with ⟨h0, rfl⟩ | ⟨g, off, cap, cur, rfl, hb, hh, hc, hm, hs, hx⟩
  · obtain ⟨v', w', hr, ho, hg, hn⟩ := run_append_own_string (P := P) w w.heap.size t u ty e i ht hu hi hz hsize hby (.slice none 0 0) 0 [] (World.ownsRow_nil _ _ _ _) y (by omega) (by omega) (Nat.le_refl _)
    have hsy : strCells (s ++ y) = strCells y := by
      rw [strCells_append, List.eq_nil_of_length_eq_zero (by rw [strCells_length]; exact h0 : (strCells s).length = 0), List.nil_append]
    rw [List.nil_append, ← hsy] at ho
    have hB := buf_of_own ho
    refine ⟨v', w', hr, hB.lower hbase, hg, ?_⟩
    cases hv : v'.ownBlock with
    | none => exact .inl (by simp [Value.ownBlock])
    | some b => exact .inr ⟨b, rfl, (hB.typed b hv).1⟩
  · by_cases hroom : s.size + y.size ≤ cap
    · have hr := run_room (P := P) (w := w) t u ty i ht hu hi hsize g off s.size cap cur hh y hroom (by omega)
      refine ⟨_, _, hr, .inr ⟨g, off, cap, _, by rw [size_app], hb, setRow_heap w g cur _ e _ hh, by rw [size_app]; exact hroom, hm, ?_, ?_⟩, ⟨rfl, rfl, rfl, by simp, fun k _ hk => setRow_other w g k _ (fun e => hk (by simp [Value.ownBlock, e]))⟩, .inl rfl⟩
      · simp only [List.size_toArray, List.length_append, List.length_take, List.length_drop, Array.length_toList, strCells_length]
        omega
      · rw [strCells_append, ← hx]
        have hl : off + s.size ≤ cur.toList.length := by rw [Array.length_toList]; omega
        rw [List.append_assoc, List.drop_append_of_le_length (by rw [List.length_take]; omega), List.drop_take, show off + s.size - off = s.size by omega]
        rw [← List.append_assoc]
        exact List.take_left' (by rw [List.length_append, List.length_take, List.length_drop, Array.length_toList, strCells_length, size_app]; omega)
    · have holds : ∀ j u, (strCells s)[j]? = some u → w.cell? ((⟨g, off, none⟩ : Addr).add j) = some u := by
        intro j u hu
        rw [add_at, Go.Joins.cell_of_block hh]
        rw [← hx, List.getElem?_take] at hu
        split at hu
        · rw [List.getElem?_drop] at hu
          simpa using hu
        · cases hu
      have hr := run_append_grow_string (P := P) w t u ty e i (.int .u8 0) ht hu hi hz ⟨g, off, none⟩ s.size cap (strCells s) (by rw [hsize, strCells_length]; omega) holds y (by omega) (by omega) (by rw [hby]; exact growslice_fits (by omega) (by omega))
      have hge := grownCap_ge w (s.size + y.size) cap e
      have hcm := grownCap_le_maxLen w (s.size + y.size) cap e hmax
      have hz1 : (Value.int IntKind.u8 0).cells.size = 1 := rfl
      refine ⟨_, _, hr, .inr ⟨w.heap.size, 0, _, _, by rw [size_app], hbase, heap_alloc_new w.drew _, by rw [size_app]; exact hge, by omega, ?_, ?_⟩, ⟨rfl, rfl, rfl, by simp, fun k hk _ => Go.heap_alloc_old w.drew _ hk⟩, .inr ⟨w.heap.size, by simp [Value.ownBlock], Nat.le_refl _⟩⟩
      · simp only [Array.size_append, List.size_toArray, size_zeroCells, hz1, strCells_length]
        omega
      · rw [List.drop_zero, strCells_append, size_app]
        simp only [Array.toList_append]
        exact List.take_left' (by rw [List.length_append, strCells_length, strCells_length])

/-- The operation, for the walk. -/
theorem wpList_append_buf {ops : Array Oper} {rest : List Oper} {o : Oper} {a : Act} {Q : Exit → Act → World → Prop} (hgd : o.guard = none) (sl x : Operand) (t u : TypeId)
    (ho : o.op = .call { callee := .builtin .append, args := #[sl, x], argTypes := #[t, u] })
    (base : Nat) (e : TypeId) (i : TypeInfo) (ht : P.underlying t = some (.slice e)) (hu : P.underlying u = some .string) (hi : P.info? e = some i) (hz : i.zero = some (.int .u8 0)) (hsize : i.size = 1) (hby : i.bytes = 1)
    (v : Value) (s : ByteArray) (hs : a.eval sl = v) (hbuf : Buf w base e v s) (y : ByteArray) (hx : a.eval x = .string y)
    (hbytes : s.size + y.size ≤ 140737488355328) (hbase : base ≤ w.heap.size)
    (h : ∀ v' w', Buf w' base e v' (s ++ y) → w.grownBy w' v.ownBlock → (v'.ownBlock = v.ownBlock ∨ ∃ b, v'.ownBlock = some b ∧ w.heap.size ≤ b) → wpList P ops Q rest (a.put o.dst v') w') : wpList P ops Q (o :: rest) a w := by
  refine wpList_plain hgd fun K hK => ?_
  obtain ⟨v', w', hr, h2, h3, h4⟩ := hbuf.append (P := P) t u o.type i ht hu hi hz hsize hby y hbytes hbase
  unfold Oper.wp execOp
  simp only [ho, resolve, invoke, builtin, Sem.run_bind, Sem.run_pure, Result.andThen_ok, List.map_toArray, List.map_cons, List.map_nil, hs, hx, hr]
  exact hK _ _ (h v' w' h2 h3 h4)
end
end Go.Proofs.YtkmbpakhbicnaaaDoor
