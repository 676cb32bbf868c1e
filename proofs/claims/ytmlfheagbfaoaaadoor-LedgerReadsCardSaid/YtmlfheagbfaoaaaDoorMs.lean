/- A ledger in memory, its row of records told; what its methods leave as it was; Open.
A record as it stands in the file.
A ledger's Len, Get, Sync, Records, Append. -/
import Derived.Test.YtmlfheagbfaoaaaDoorReads
import Derived.Test.YtmlfheagbfaoaaaDoorTp
import Derived.Test.YtmlfheagbfaoaaaDoorSeal
import Derived.BigQuiet
import Derived.Deep.QuietTactic
import Derived.Deep.RegionWith
import Derived.IntWalk
import Derived.WalkSpells
namespace Go.Proofs.YtmlfheagbfaoaaaDoor
open Go.RowKit Go.Proofs.YtmlfheagbfaoaaaDoorW.PrintWords Go.Proofs.YtmlfheagbfaoaaaDoorW.PrintMore Go.Lib
theorem fileBelow {w w' : World} {B g : Nat} {b : ByteArray} {sy : Nat} (h : Dk.FileAt w B g b sy) (hb : Below w.heap.size w w') : Dk.FileAt w' B g b sy := by
  obtain ⟨⟨v, hg, hbuf⟩, h1, h2, h3⟩ := h
  have lt : ∀ (k : Nat) (o : Obj), w.heap[k]? = some o → k < w.heap.size := fun k o e => (Array.getElem?_eq_some_iff.1 e).1
  refine ⟨⟨v, (hb.block g (lt _ _ hg)).trans hg, ?_⟩, h1, h2, h3⟩
  rcases hbuf with hn | ⟨k, off, cap, cur, e1, e2, e3, e4⟩
  · exact .inl hn
  · exact .inr ⟨k, off, cap, cur, e1, e2, (hb.block k (lt _ _ e3)).trans e3, e4⟩
theorem rowSlice {w : World} {n₀ : Nat} {v : Value} {n : Nat} {xs : List Value} (h : w.ownsRow n₀ 9 1 v n xs) : ∃ A c, v = .slice A n c := by
  rcases h.2 with ⟨rfl, h0⟩ | ⟨k, cap, cur, rfl, -⟩
  · exact ⟨none, 0, by rw [h0]⟩
  · exact ⟨_, _, rfl⟩
/-- Two rows lie apart. -/
def Apart (u v : Value) : Prop := u.ownBlock = none ∨ u.ownBlock ≠ v.ownBlock
/-- Where a row lies behind a step: where it lay, or in a new block. -/
def Moved (w : World) (v v' : Value) : Prop := v'.ownBlock = v.ownBlock ∨ ∃ k, v'.ownBlock = some k ∧ w.heap.size ≤ k
structure LedgerV (w : World) (B g lg : Nat) (v : Value) (b : ByteArray) (sy : Nat) (recs : List ByteArray) (syn : Nat) : Prop where
  file : Dk.FileAt w B g b sy
  cell : w.heap[lg]? = some (.cells #[.pointer (some ⟨g, 0, none⟩), v, .int .i64 syn] 61 (0, 0))
  row : w.ownsRow B 9 1 v recs.length (recs.map Value.string)
  ge : B ≤ lg
  ne : lg ≠ g
  few : 6 * recs.length ≤ b.size
/-- What is left as it was: all but the file, its bytes, the ledger and its row of records. -/
structure LK (B g lg : Nat) (v : Value) (w w' : World) : Prop where
  os : w'.os = w.os
  tape : w'.tape = w.tape
  output : w'.output = w.output
  size : w.heap.size ≤ w'.heap.size
  block : ∀ k, k < w.heap.size → k ≠ g → k ≠ lg → some k ≠ v.ownBlock → (k < B ∨ ∀ cur, w.heap[k]? ≠ some (.cells cur 5 (0, 0))) → w'.heap[k]? = w.heap[k]?
theorem LK.refl (B g lg : Nat) (v : Value) (w : World) : LK B g lg v w w := ⟨rfl, rfl, rfl, Nat.le_refl _, fun _ _ _ _ _ _ => rfl⟩
theorem LK.trans {B g lg : Nat} {v v' : Value} {w w1 w2 : World} (h : LK B g lg v w w1) (hm : Moved w v v') (k : LK B g lg v' w1 w2) : LK B g lg v w w2 :=
  ⟨k.os.trans h.os, k.tape.trans h.tape, k.output.trans h.output, Nat.le_trans h.size k.size, fun i hi h1 h2 h3 h4 => by
    have e := h.block i hi h1 h2 h3 h4
    refine (k.block i (Nat.lt_of_lt_of_le hi h.size) h1 h2 ?_ ?_).trans e
    · rcases hm with hm | ⟨j, hj, hle⟩
      · rw [hm]; exact h3
      · rw [hj]; intro e; injection e with e; omega
    · rcases h4 with h4 | h4
      · exact .inl h4
      · exact .inr (fun cur => by rw [e]; exact h4 cur)⟩
theorem Moved.refl (w : World) (v : Value) : Moved w v v := .inl rfl
theorem LK.of_below {B g lg : Nat} {v : Value} {w w' : World} (h : Below w.heap.size w w') : LK B g lg v w w' := ⟨h.os, h.tape, h.output, h.size, fun k hk _ _ _ _ => h.block k hk⟩
theorem LK.of_keeps {B g lg : Nat} {v : Value} {w w' : World} (h : Dk.Keeps B g w w') : LK B g lg v w w' := ⟨h.os, h.tape, h.output, h.size, fun k hk h1 _ _ h4 => h.block k hk h1 h4⟩
theorem LK.of_grown {B g lg : Nat} {v : Value} {w w' : World} (h : w.grownBy w' v.ownBlock) : LK B g lg v w w' := ⟨h.os, h.tape, h.output, h.size, fun k hk _ _ h3 _ => h.block k hk h3⟩
theorem LK.of_set {B g lg : Nat} {v : Value} {w : World} (j : Nat) (x : Value) : LK B g lg v w (w.setCell ⟨lg, j, none⟩ x) := ⟨rfl, rfl, rfl, by simp [World.setCell], fun k _ _ h2 _ _ => Below.heap_setCell w ⟨lg, j, none⟩ x k h2⟩
theorem LK.below {B g lg : Nat} {v : Value} {b : ByteArray} {sy : Nat} {recs : List ByteArray} {syn : Nat} {w0 w w' : World} (h : LK B g lg v w w') (hL : LedgerV w B g lg v b sy recs syn) (hb : Below B w0 w) : Below B w0 w' :=
  ⟨h.os.trans hb.os, h.tape.trans hb.tape, h.output.trans hb.output, Nat.le_trans hb.size h.size, fun k hk => by
    have hs := (Array.getElem?_eq_some_iff.1 hL.cell).1
    have h1 := hL.ge
    have h2 := hL.file.ge
    refine (h.block k (by omega) (by omega) (by omega) (fun e => ?_) (.inl hk)).trans (hb.block k hk)
    have := own_base hL.row k e.symm
    omega⟩
/-- A row of texts that lies apart stays. -/
theorem rowLK {B g lg : Nat} {v u : Value} {b : ByteArray} {sy : Nat} {recs : List ByteArray} {syn : Nat} {w w' : World} {n₀ n : Nat} {xs : List Value} (h : w.ownsRow n₀ 9 1 u n xs) (hL : LedgerV w B g lg v b sy recs syn) (ha : Apart u v) (hk : LK B g lg v w w') : w'.ownsRow n₀ 9 1 u n xs := by
  refine ⟨h.1, ?_⟩
  rcases h.2 with h2 | ⟨k, cap, cur, e1, e2, e3, e4⟩
  · exact .inl h2
  · refine .inr ⟨k, cap, cur, e1, e2, (hk.block k (Array.getElem?_eq_some_iff.1 e3).1 ?_ ?_ ?_ (.inr fun c e => by rw [e3] at e; cases e)).trans e3, e4⟩
    · rintro rfl
      obtain ⟨⟨u, hu, -⟩, -⟩ := hL.file
      rw [e3] at hu
      cases hu
    · rintro rfl
      have := hL.cell
      rw [e3] at this
      cases this
    · have e5 : u.ownBlock = some k := by rw [e1]; rfl
      rcases ha with ha | ha
      · rw [ha] at e5; cases e5
      · rw [← e5]; exact ha
theorem rowKept {w w' : World} {B g n₀ : Nat} {v : Value} {n : Nat} {xs : List Value} {b : ByteArray} {sy : Nat} (h : w.ownsRow n₀ 9 1 v n xs) (hk : Dk.Keeps B g w w') (hf : Dk.FileAt w B g b sy) : w'.ownsRow n₀ 9 1 v n xs := by
  refine ⟨h.1, ?_⟩
  rcases h.2 with h2 | ⟨k, cap, cur, e1, e2, e3, e4⟩
  · exact .inl h2
  · exact .inr ⟨k, cap, cur, e1, e2, (hk.block k (Array.getElem?_eq_some_iff.1 e3).1 (by rintro rfl; obtain ⟨⟨u, hu, -⟩, -⟩ := hf; rw [e3] at hu; cases hu) (.inr fun c e => by rw [e3] at e; cases e)).trans e3, e4⟩
theorem keeps_of_below {B g : Nat} {w w' : World} (h : Below w.heap.size w w') : Dk.Keeps B g w w' := ⟨h.os, h.tape, h.output, h.size, fun k hk _ _ => h.block k hk⟩
theorem keeps_alloc {B g : Nat} {w w' : World} (h : Dk.Keeps B g w w') (o : Obj) : Dk.Keeps B g w (w'.alloc o) := h.trans (keeps_of_below ((Below.refl _ _).alloc (Nat.le_refl _) o))
set_option maxRecDepth 100000 in
set_option maxHeartbeats 4000000 in
theorem open_any (B g : Nat) (b : ByteArray) (sy : Nat) (w : World) (h : Dk.FileAt w B g b sy) (hT : Tab w) (hB : B ≤ w.heap.size) :
    Calls Tryd.prog 10 #[.pointer (some ⟨g, 0, none⟩)] w fun e w' => ∃ lg v, e = .returned (.tuple #[.pointer (some ⟨lg, 0, none⟩), .int .i64 0]) ∧
      LedgerV w' B g lg v (b.extract 0 (endOf (toldB b))) (endOf (toldB b)) ((toldB b).map (·.1)) (toldB b).length ∧ w'.ownsRow w.heap.size 9 1 v (toldB b).length ((toldB b).map fun x => Value.string x.1) ∧ w.heap.size ≤ lg ∧ Dk.Keeps B g w w' := by
  have hm := h.max
  have hlen := told_len b
  have R1 := Lib.hid (Dk.bytes_any B g b sy w h)
  have R2 := Lib.hid (read_any w b (by omega) hT (by omega))
  go_enter Tryd.func10, Tryd.ntmps10
  go_wp2_with fail
  refine R1.out.mono ?_
  rintro e w1 ⟨rfl, rfl⟩
  go_wp2_with fail
  refine R2.out.mono ?_
  rintro e w2 ⟨v, rfl, hr, hb2⟩
  have F2 := fileBelow h hb2
  have hgl : g < w.heap.size := by obtain ⟨⟨v, hg, -⟩, -⟩ := h; exact (Array.getElem?_eq_some_iff.1 hg).1
  have R3 := Lib.hid (Dk.cut_any B g b sy (endOf (toldB b)) w2 F2 (told_end b))
  replace hb2 := Lib.hid hb2
  replace F2 := Lib.hid F2
  clear R1 R2
  obtain ⟨A, c, rfl⟩ := rowSlice hr
  replace hr := Lib.hid hr
  go_wp2_with fail
  refine R3.out.mono ?_
  rintro e w3 ⟨rfl, F3, K3⟩
  have hr3 := rowKept hr.out K3 F2.out
  replace F3 := Lib.hid F3
  replace K3 := Lib.hid K3
  replace hr3 := Lib.hid hr3
  go_wp2
  refine bodyPost_ret (results_tmp2 rfl _ _ _) rfl ?_
  have hs2 := hb2.out.size
  have hs3 := K3.out.size
  have hBg := F3.out.ge
  have hrow := hr3.out.alloc (.cells #[.pointer (some ⟨g, 0, none⟩), .slice A (toldB b).length c, .int .i64 ((toldB b).length : Nat)] 61)
  refine ⟨w3.heap.size, _, rfl, ⟨fileBelow F3.out ((Below.refl _ _).alloc (Nat.le_refl _) _), World.alloc_heap_new _ _, ?_, by omega, by omega, ?_⟩, hrow, by omega, ?_⟩
  · have := rowBase (b' := B) hB hrow
    rw [List.length_map, List.map_map]
    exact this
  · rw [List.length_map, ext_size _ _ (told_end b)]
    exact told_end6 b
  · exact keeps_alloc ((keeps_of_below hb2.out).trans K3.out) _
end Go.Proofs.YtmlfheagbfaoaaaDoor
namespace Go.Proofs.YtmlfheagbfaoaaaDoor
open Go.RowKit Go.Proofs.YtmlfheagbfaoaaaDoorW.PrintWords Go.Proofs.YtmlfheagbfaoaaaDoorW.PrintMore Go.Lib
theorem two_str (W : World) (bk m : Nat) (cap : Nat) (h : W.heap[bk]? = some (.cells #[.int .u8 ((m / 256 % 256 : Nat) : Int), .int .u8 ((m % 256 : Nat) : Int)] 5 (0, 0))) :
    (convert 56 9 (.slice (some ⟨bk, 0, none⟩) 2 cap)).run Tryd.prog W = .ok (.string (beB m 2)) W := by
  have hC : (Kd.int .u8).C W (some ⟨bk, 0, none⟩) 2 [((m / 256 % 256 : Nat) : Int), ((m % 256 : Nat) : Int)] := by
    refine ⟨by simp, by decide, fun _ => ⟨_, rfl, ?_⟩⟩
    intro j p hp
    match j, hp with
    | 0, hp => 
      obtain rfl := Option.some.inj hp
      refine ⟨[.int .u8 ((m / 256 % 256 : Nat) : Int)], rfl, rfl, ?_⟩
      intro i u hu
      match i, hu with
      | 0, hu => simp at hu; subst hu; exact Go.Joins.cell_of_block h 0
    | 1, hp =>
      obtain rfl := Option.some.inj hp
      refine ⟨[.int .u8 ((m % 256 : Nat) : Int)], rfl, rfl, ?_⟩
      intro i u hu
      match i, hu with
      | 0, hu => simp at hu; subst hu; exact Go.Joins.cell_of_block h 1
  rw [Kd.C_string Tryd.underlying56 Tryd.underlying5 Tryd.underlying9 hC]
  refine congrArg (fun z => Result.ok (Value.string z) W) ?_
  apply Go.WideShapes.bytes_inj
  have e : ∀ k : Nat, UInt8.ofNat (k % 256) = UInt8.ofNat k := fun k => UInt8.toNat_inj.1 (by simp)
  rw [str_nums]
  simp only [List.map_cons, List.map_nil, Int.toNat_natCast, e]
  simp [beB, beL]
theorem two_at (W : World) (bk m : Nat) (h : W.heap[bk]? = some (.cells #[.int .u8 (IntKind.u8.wrap ((m : Int) / 256)), .int .u8 (IntKind.u8.wrap (m : Int))] 5 (0, 0))) :
    (convert 56 9 (.slice (some ⟨bk, 0, none⟩) 2 2)).run Tryd.prog W = .ok (.string (beB m 2)) W := by
  refine two_str W bk m 2 ?_
  rw [h, IntKind.wrap_u8, IntKind.wrap_u8]
  congr 5
theorem two_old (w W : World) (m : Nat) (h : Below (w.alloc (.cells #[.int .u8 (IntKind.u8.wrap ((m : Int) / 256)), .int .u8 (IntKind.u8.wrap (m : Int))] 5)).drew.heap.size (w.alloc (.cells #[.int .u8 (IntKind.u8.wrap ((m : Int) / 256)), .int .u8 (IntKind.u8.wrap (m : Int))] 5)).drew W) :
    (convert 56 9 (.slice (some ⟨w.heap.size, 0, none⟩) 2 2)).run Tryd.prog W = .ok (.string (beB m 2)) W := by
  refine two_at W _ m ((h.block w.heap.size ?_).trans (heap_alloc_new w _))
  show w.heap.size < (w.alloc _).heap.size
  rw [World.size_alloc]
  omega
set_option maxRecDepth 100000 in
set_option maxHeartbeats 4000000 in
theorem written_any (w : World) (n : Nat) (r : ByteArray) (hT : Tab w) (hn : n < 1099511627776) (hr : r.size ≤ 9000) :
    Calls Tryd.prog 25 #[.int .i64 (n : Int), .string r] w fun e w' => e = .returned (.string (writtenB n r)) ∧ Below w.heap.size w w' := by
  have HT := Lib.hid hT
  have C0 := fun X : World => two_at (X.alloc (.cells #[.int .u8 (IntKind.u8.wrap ((r.size : Int) / 256)), .int .u8 (IntKind.u8.wrap (r.size : Int))] 5)) X.heap.size r.size (heap_alloc_new X _)
  have C1 := fun X : World => two_at (X.alloc (.cells #[.int .u8 (IntKind.u8.wrap ((r.size : Int) / 256)), .int .u8 (IntKind.u8.wrap (r.size : Int))] 5)).drew X.heap.size r.size (heap_alloc_new X _)
  have A1 := fun w => run_string_add_sum (P := Tryd.prog) w (beB r.size 2) r (by rw [beB_size]; omega)
  have A2 := fun w => run_string_add_sum (P := Tryd.prog) w (beB r.size 2 ++ r) (sealB n r) (by rw [app_size, beB_size, sealB_size]; omega)
  clear hT
  go_enter Tryd.func25, Tryd.ntmps25
  go_wp2
  go_region_with (go_at_call 31; refine (seal_any _ n r ?hX hn (by omega)).mono ?_; (case hX => first | exact HT.out.below (Below.refl _ w).drew | exact HT.out.below ((Below.refl _ w).alloc (Nat.le_refl _) _).drew | exact HT.out.below ((Below.refl _ w).drew.alloc (Nat.le_refl _) _)); rintro e w5 ⟨rfl, hb5⟩; (try have C5 := two_old _ _ _ hb5); replace hb5 := Lib.hid hb5)
  all_goals
    go_wp2
    go_ret
    refine ⟨rfl, ?_⟩
    have D0 : Below w.heap.size w w.drew := (Below.refl _ w).drew
    have D1 : ∀ o, Below w.heap.size w (w.alloc o).drew := fun o => ((Below.refl _ w).alloc (Nat.le_refl _) o).drew
    first
    | exact below_then (D1 _) (D1 _).size hb5.out
    | exact below_then D0 D0.size hb5.out
    | exact (below_then D0 D0.size hb5.out).alloc (below_then D0 D0.size hb5.out).size _
end Go.Proofs.YtmlfheagbfaoaaaDoor
namespace Go.Proofs.YtmlfheagbfaoaaaDoor
open Go.RowKit Go.Proofs.YtmlfheagbfaoaaaDoorW.PrintWords Go.Proofs.YtmlfheagbfaoaaaDoorW.PrintMore Go.Lib
set_option maxHeartbeats 1600000 in
theorem llen_any (B g lg : Nat) (v : Value) (b : ByteArray) (sy : Nat) (recs : List ByteArray) (syn : Nat) (w : World) (h : LedgerV w B g lg v b sy recs syn) :
    Calls Tryd.prog 13 #[.pointer (some ⟨lg, 0, none⟩)] w fun e w' => e = .returned (.tuple #[.int .i64 (recs.length : Nat), .int .i64 syn]) ∧ ∃ n, w' = w.drewN n := by
  obtain ⟨hf, hg, hr, h3, h4, -⟩ := h
  obtain ⟨A, c, rfl⟩ := rowSlice hr
  have c0 : w.cell? ⟨lg, 1, none⟩ = some (.slice A recs.length c) := Go.Joins.cell_of_block hg 1
  have c1 : w.cell? ⟨lg, 2, none⟩ = some (.int .i64 syn) := Go.Joins.cell_of_block hg 2
  clear hg hr hf
  go_enter Tryd.func13, Tryd.ntmps13
  go_wp2
  go_quiet (fail)
  go_wp2
  go_ret2
  exact ⟨rfl, _, rfl⟩
theorem fileSet {w : World} {B g lg : Nat} {b : ByteArray} {sy : Nat} {cs : Array Value} (h : Dk.FileAt w B g b sy) (hl : w.heap[lg]? = some (.cells cs 61 (0, 0))) (hne : lg ≠ g) (j : Nat) (x : Value) : Dk.FileAt (w.setCell ⟨lg, j, none⟩ x) B g b sy := by
  obtain ⟨⟨v, hg, hbuf⟩, h1, h2, h3⟩ := h
  refine ⟨⟨v, (Below.heap_setCell w ⟨lg, j, none⟩ x g (by show g ≠ lg; omega)).trans hg, ?_⟩, h1, h2, h3⟩
  rcases hbuf with hn | ⟨k, off, cap, cur, e1, e2, e3, e4⟩
  · exact .inl hn
  · exact .inr ⟨k, off, cap, cur, e1, e2, (Below.heap_setCell w ⟨lg, j, none⟩ x k (by show k ≠ lg; rintro rfl; rw [e3] at hl; cases hl)).trans e3, e4⟩
theorem fileGrown {w w' : World} {B g n₀ n : Nat} {u : Value} {xs : List Value} {b : ByteArray} {sy : Nat} (h : Dk.FileAt w B g b sy) (hr : w.ownsRow n₀ 9 1 u n xs) (hg : w.grownBy w' u.ownBlock) : Dk.FileAt w' B g b sy := by
  have key : ∀ (k : Nat) cs t, w.heap[k]? = some (.cells cs t (0, 0)) → t ≠ 9 → w'.heap[k]? = w.heap[k]? := by
    intro k cs t hk ht
    refine hg.block k (Array.getElem?_eq_some_iff.1 hk).1 (fun e => ?_)
    rcases hr.2 with ⟨rfl, _⟩ | ⟨j, cap, cur, rfl, _, e3, _⟩
    · cases e
    · have : k = j := by simpa [Value.ownBlock] using e
      subst this
      rw [e3] at hk
      injection hk with hk
      injection hk with _ hk
      exact ht hk.symm
  obtain ⟨⟨v, hv, hbuf⟩, h1, h2, h3⟩ := h
  refine ⟨⟨v, (key g _ _ hv (by decide)).trans hv, ?_⟩, h1, h2, h3⟩
  rcases hbuf with hn | ⟨k, off, cap, cur, e1, e2, e3, e4⟩
  · exact .inl hn
  · exact .inr ⟨k, off, cap, cur, e1, e2, (key k _ _ e3 (by decide)).trans e3, e4⟩
theorem rowSet {w : World} {n₀ lg : Nat} {v : Value} {n : Nat} {xs : List Value} {cs : Array Value} (h : w.ownsRow n₀ 9 1 v n xs) (hl : w.heap[lg]? = some (.cells cs 61 (0, 0))) (j : Nat) (x : Value) : (w.setCell ⟨lg, j, none⟩ x).ownsRow n₀ 9 1 v n xs := by
  refine ⟨h.1, ?_⟩
  rcases h.2 with h2 | ⟨k, cap, cur, e1, e2, e3, e4⟩
  · exact .inl h2
  · exact .inr ⟨k, cap, cur, e1, e2, (Below.heap_setCell w ⟨lg, j, none⟩ x k (by show k ≠ lg; rintro rfl; rw [e3] at hl; cases hl)).trans e3, e4⟩
theorem set_at {w : World} {lg : Nat} {cs : Array Value} {t : TypeId} (hg : w.heap[lg]? = some (.cells cs t (0, 0))) (j : Nat) (x : Value) : (w.setCell ⟨lg, j, none⟩ x).heap[lg]? = some (.cells (cs.setIfInBounds j x) t (0, 0)) := Go.Joins.block_setCell hg x
set_option maxHeartbeats 1600000 in
theorem lsync_any (B g lg : Nat) (v : Value) (b : ByteArray) (sy : Nat) (recs : List ByteArray) (syn : Nat) (w : World) (h : LedgerV w B g lg v b sy recs syn) :
    Calls Tryd.prog 21 #[.pointer (some ⟨lg, 0, none⟩)] w fun e w' => e = .returned (.int .i64 0) ∧ LedgerV w' B g lg v b b.size recs recs.length ∧ LK B g lg v w w' := by
  obtain ⟨hf, hg, hr, h3, h4, h5⟩ := h
  have F1 := fileSet hf hg h4 2 (.int .i64 (recs.length : Nat))
  have r1 := rowSet hr hg 2 (.int .i64 (recs.length : Nat))
  have hl1 := set_at hg 2 (.int .i64 (recs.length : Nat))
  have S0 := Lib.hid (LK.of_set (B := B) (g := g) (lg := lg) (v := v) (w := w) 2 (.int .i64 (recs.length : Nat)))
  obtain ⟨A, c, rfl⟩ := rowSlice hr
  have c0 : w.cell? ⟨lg, 0, none⟩ = some (.pointer (some ⟨g, 0, none⟩)) := Go.Joins.cell_of_block hg 0
  have c1 : w.cell? ⟨lg, 1, none⟩ = some (.slice A recs.length c) := Go.Joins.cell_of_block hg 1
  have c2 : w.cell? ⟨lg, 2, none⟩ = some (.int .i64 syn) := Go.Joins.cell_of_block hg 2
  have f2 : w.frozen? ⟨lg, 2, none⟩ = false := Go.Joins.unfrozen_of_block hg 2
  have S1 := Lib.hid (Dk.sync_any B g b sy _ F1)
  replace F1 := Lib.hid F1
  replace r1 := Lib.hid r1
  replace hl1 := Lib.hid hl1
  clear hg hr hf
  go_enter Tryd.func21, Tryd.ntmps21
  go_wp2_with fail
  refine S1.out.mono ?_
  rintro e w2 ⟨rfl, F2, K2⟩
  go_wp2
  go_ret
  refine ⟨rfl, ⟨F2, (K2.block lg (Array.getElem?_eq_some_iff.1 hl1.out).1 h4 (.inr fun c e => by rw [hl1.out] at e; cases e)).trans hl1.out, rowKept r1.out K2 F1.out, h3, h4, h5⟩, S0.out.trans (Moved.refl _ _) (LK.of_keeps K2)⟩
theorem rowCell {w : World} {n₀ : Nat} {A : Option Addr} {c : Nat} {recs : List ByteArray} (h : w.ownsRow n₀ 9 1 (.slice A recs.length c) recs.length (recs.map Value.string)) (i : Nat) (hi : i < recs.length) : ∃ k, A = some ⟨k, 0, none⟩ ∧ w.cell? ⟨k, i, none⟩ = some (.string recs[i]) := by
  rcases h.2 with ⟨_, h2⟩ | ⟨k, cap, cur, e1, _⟩
  · omega
  · cases e1
    refine ⟨k, rfl, ?_⟩
    rw [World.ownsRow.cellAt h i (by omega), List.getElem?_map, List.getElem?_eq_getElem hi]
    rfl
set_option maxHeartbeats 1600000 in
theorem get_no (B g lg : Nat) (v : Value) (b : ByteArray) (sy : Nat) (recs : List ByteArray) (syn : Nat) (n : Int) (w : World) (h : LedgerV w B g lg v b sy recs syn) (hn : n < 0 ∨ recs.length ≤ n) :
    Calls Tryd.prog 14 #[.pointer (some ⟨lg, 0, none⟩), .int .i64 n] w fun e w' => e = .returned (.tuple #[.string ⟨#[]⟩, .int .i64 6]) ∧ w = w' := by
  obtain ⟨hf, hg, hr, h3, h4, -⟩ := h
  obtain ⟨A, c, rfl⟩ := rowSlice hr
  have c0 : w.cell? ⟨lg, 1, none⟩ = some (.slice A recs.length c) := Go.Joins.cell_of_block hg 1
  clear hg hr hf
  by_cases hneg : n < 0
  · have d0 : decide (n < 0) = true := by simp [hneg]
    clear hn
    go_enter Tryd.func14, Tryd.ntmps14
    go_wp2
    go_ret2
    exact ⟨rfl, rfl⟩
  · have d0 : decide (n < 0) = false := by simp [hneg]
    have hge : (recs.length : Int) ≤ n := by omega
    have d1 : decide ((recs.length : Int) ≤ n) = true := by simp [hge]
    clear hn
    go_enter Tryd.func14, Tryd.ntmps14
    go_wp2
    go_ret2
    exact ⟨rfl, rfl⟩
set_option maxHeartbeats 1600000 in
theorem get_yes (B g lg : Nat) (v : Value) (b : ByteArray) (sy : Nat) (recs : List ByteArray) (syn : Nat) (n : Nat) (w : World) (h : LedgerV w B g lg v b sy recs syn) (hn : n < recs.length) :
    Calls Tryd.prog 14 #[.pointer (some ⟨lg, 0, none⟩), .int .i64 (n : Int)] w fun e w' => e = .returned (.tuple #[.string (recs[n]'hn), .int .i64 0]) ∧ w = w' := by
  obtain ⟨hf, hg, hr, h3, h4, -⟩ := h
  obtain ⟨A, c, rfl⟩ := rowSlice hr
  have c0 : w.cell? ⟨lg, 1, none⟩ = some (.slice A recs.length c) := Go.Joins.cell_of_block hg 1
  obtain ⟨k, rfl, ck⟩ := rowCell hr n hn
  generalize recs[n] = x at ck ⊢
  clear hg hr hf
  have d0 : decide ((n : Int) < 0) = false := by simp
  have d1 : decide ((recs.length : Int) ≤ (n : Int)) = false := by simp; omega
  have d2 : decide (recs.length ≤ n) = false := by simp; omega
  go_enter Tryd.func14, Tryd.ntmps14
  go_wp2
  go_ret2
  exact ⟨rfl, rfl⟩
theorem ownEmpty (w : World) : (w.alloc (.cells #[] 9)).ownsRow w.heap.size 9 1 (.slice (some ⟨w.heap.size, 0, none⟩) 0 0) 0 [] :=
  ⟨rfl, .inr ⟨w.heap.size, 0, #[], rfl, Nat.le_refl _, heap_alloc_new w _, Nat.le_refl _, Nat.zero_le _, rfl, rfl⟩⟩
set_option maxHeartbeats 1600000 in
theorem clone_any (w : World) (n₀ : Nat) (v : Value) (recs : List ByteArray) (hr : w.ownsRow n₀ 9 1 v recs.length (recs.map Value.string)) (hl : recs.length ≤ 1099511627776) :
    Calls Tryd.prog 28 #[v] w fun e w' => ∃ u, e = .returned u ∧ w'.ownsRow w.heap.size 9 1 u recs.length (recs.map Value.string) ∧ Below w.heap.size w w' := by
  rcases hr.2 with ⟨rfl, h0⟩ | ⟨k, cap, cur, rfl, -⟩
  · have hn := fun w => Lib.run_eql_slice_nil (P := Tryd.prog) w 22 9 none 0 0 0 0 Tryd.underlying22
    have hnil : recs = [] := List.eq_nil_of_length_eq_zero h0
    subst hnil
    clear hr h0
    go_enter Tryd.func28, Tryd.ntmps28
    go_wp2
    go_ret
    exact ⟨_, rfl, World.ownsRow_nil _ _ _ _, Below.refl _ _⟩
  · have hn := fun w => Lib.run_eql_slice_nil (P := Tryd.prog) w 22 9 (some ⟨k, 0, none⟩) recs.length cap 0 0 Tryd.underlying22
    obtain ⟨i0, hi, hz0, hz1, hz2⟩ := info_parts info_str
    have hE := Lib.hid (ownEmpty w)
    have hC : ∀ j u, (recs.map Value.string)[j]? = some u → (w.alloc (.cells #[] 9)).cell? ((⟨k, 0, none⟩ : Addr).add j) = some u := by
      intro j u hj
      have hjl : j < recs.length := by
        have := (List.getElem?_eq_some_iff.1 hj).1
        simpa using this
      have := hr.alloc (.cells #[] 9)
      rw [add_plain, World.ownsRow.cellAt this j (by omega)]
      exact hj
    have hB := Lib.hid ((Below.refl w.heap.size w).alloc (Nat.le_refl _) (.cells #[] 9))
    replace hC := Lib.hid hC
    clear hr
    go_enter Tryd.func28, Tryd.ntmps28
    go_wp2_with (at_builtin; refine wpList_append_own_at _ rfl _ _ 22 rfl w.heap.size 9 i0 (.string ⟨#[]⟩) 1 16 Tryd.underlying22 hi hz0 hz1 hz2 rfl (by decide) (.slice (some ⟨w.heap.size, 0, none⟩) 0 0) 0 [] rfl hE.out ⟨k, 0, none⟩ recs.length cap (recs.map Value.string) rfl ?hl hC.out ?h1 ?h63 ?hbytes ?hbase ?_)
    case hl => simp
    case h1 => intro u hu; obtain ⟨x, _, rfl⟩ := List.mem_map.1 hu; rfl
    case h63 => simp [maxLen]; omega
    case hbytes => omega
    case hbase => simp
    intro v' w2 hown hgrow _ _
    obtain ⟨A, c, rfl⟩ := rowSlice hown
    replace hown := Lib.hid hown
    replace hgrow := Lib.hid hgrow
    go_wp2
    go_ret
    exact ⟨_, rfl, hown.out, hB.out.grown hgrow.out hB.out.size (by intro k hk; simp [Value.ownBlock] at hk; omega)⟩
set_option maxHeartbeats 1600000 in
theorem records_any (B g lg : Nat) (v : Value) (b : ByteArray) (sy : Nat) (recs : List ByteArray) (syn : Nat) (w : World) (h : LedgerV w B g lg v b sy recs syn) :
    Calls Tryd.prog 20 #[.pointer (some ⟨lg, 0, none⟩)] w fun e w' => ∃ u, e = .returned u ∧ w'.ownsRow w.heap.size 9 1 u recs.length (recs.map Value.string) ∧ Below w.heap.size w w' := by
  have h1 := h.few
  have h2 := h.file.max
  have C1 := Lib.hid (clone_any w B v recs h.row (by omega))
  obtain ⟨hf, hg, hr, h3, h4, -⟩ := h
  obtain ⟨A, c, rfl⟩ := rowSlice hr
  have c0 : w.cell? ⟨lg, 1, none⟩ = some (.slice A recs.length c) := Go.Joins.cell_of_block hg 1
  clear hg hr hf
  go_enter Tryd.func20, Tryd.ntmps20
  go_wp2_with fail
  refine C1.out.mono ?_
  rintro e w1 ⟨u, rfl, hu, hb⟩
  obtain ⟨A', c', rfl⟩ := rowSlice hu
  replace hu := Lib.hid hu
  replace hb := Lib.hid hb
  go_wp2
  go_ret
  exact ⟨_, rfl, hu.out, hb.out⟩
set_option maxHeartbeats 1600000 in
theorem lappend_long (p : Option Addr) (r : ByteArray) (w : World) (hr : 9000 < r.size) :
    Calls Tryd.prog 11 #[.pointer p, .string r] w fun e w' => e = .returned (.tuple #[.int .i64 0, .int .i64 2]) ∧ w = w' := by
  have h1 : (9000 : Int) < (r.size : Int) := by omega
  go_enter Tryd.func11, Tryd.ntmps11
  go_wp2
  go_ret2
  exact ⟨rfl, rfl⟩
set_option maxRecDepth 100000 in
set_option maxHeartbeats 4000000 in
theorem lappend_full (B g lg : Nat) (v : Value) (b : ByteArray) (sy : Nat) (recs : List ByteArray) (syn : Nat) (r : ByteArray) (w : World) (h : LedgerV w B g lg v b sy recs syn) (hT : Tab w) (hr : r.size ≤ 9000) (hf : 1048576 < b.size + (r.size + 6)) :
    Calls Tryd.prog 11 #[.pointer (some ⟨lg, 0, none⟩), .string r] w fun e w' => e = .returned (.tuple #[.int .i64 0, .int .i64 5]) ∧ Below w.heap.size w w' := by
  have h1 : ¬ (9000 : Int) < (r.size : Int) := by omega
  have hfew := h.few
  have hmax := h.file.max
  have F0 := Lib.hid (fileBelow h.file (Below.refl _ w).drew)
  have hfull := Lib.hid (show ¬ b.size + (writtenB recs.length r).size ≤ 1048576 by rw [writtenB_size]; omega)
  have W0 := Lib.hid (written_any w.drew recs.length r (hT.below (Below.refl _ w).drew) (by omega) hr)
  obtain ⟨A, c, ev⟩ := rowSlice h.row
  subst ev
  have c0 : w.cell? ⟨lg, 0, none⟩ = some (.pointer (some ⟨g, 0, none⟩)) := Go.Joins.cell_of_block h.cell 0
  have c1 : w.cell? ⟨lg, 1, none⟩ = some (.slice A recs.length c) := Go.Joins.cell_of_block h.cell 1
  clear h hT
  go_enter Tryd.func11, Tryd.ntmps11
  go_wp2
  go_region_with (first
    | (go_at_call 25; refine W0.out.mono ?_; rintro e w5 ⟨rfl, hb5⟩; have c5 := pw_cell_below hb5 (show w.drew.cell? ⟨lg, 0, none⟩ = some (.pointer (some ⟨g, 0, none⟩)) from c0); have F5 := Lib.hid (fileBelow F0.out hb5); replace hb5 := Lib.hid hb5)
    | (go_at_call 17; refine (Dk.append_full B g b sy (writtenB recs.length r) _ F5.out hfull.out).mono ?_; rintro e w6 ⟨rfl, rfl⟩))
  all_goals
    go_wp2
    go_ret2
    exact ⟨rfl, below_then (Below.refl _ w).drew (Nat.le_refl _) hb5.out⟩
set_option maxRecDepth 100000 in
set_option maxHeartbeats 4000000 in
theorem lappend_room (B g lg : Nat) (v : Value) (b : ByteArray) (sy : Nat) (recs : List ByteArray) (syn : Nat) (r : ByteArray) (w : World) (h : LedgerV w B g lg v b sy recs syn) (hT : Tab w) (hB : B ≤ w.heap.size) (hr : r.size ≤ 9000) (hf : b.size + (r.size + 6) ≤ 1048576) :
    Calls Tryd.prog 11 #[.pointer (some ⟨lg, 0, none⟩), .string r] w fun e w' => e = .returned (.tuple #[.int .i64 (recs.length : Nat), .int .i64 0]) ∧
      ∃ v', LedgerV w' B g lg v' (b ++ writtenB recs.length r) sy (recs ++ [r]) syn ∧ LK B g lg v w w' ∧ Moved w v v' := by
  have h1 : ¬ (9000 : Int) < (r.size : Int) := by omega
  have hfew := h.few
  have hmax := h.file.max
  have F0 := Lib.hid (fileBelow h.file (Below.refl _ w).drew)
  have hroom := Lib.hid (show b.size + (writtenB recs.length r).size ≤ 1048576 by rw [writtenB_size]; omega)
  have W0 := Lib.hid (written_any w.drew recs.length r (hT.below (Below.refl _ w).drew) (by omega) hr)
  have hge := Lib.hid h.ge
  have hne := Lib.hid h.ne
  have hlt : lg < w.heap.size := (Array.getElem?_eq_some_iff.1 h.cell).1
  obtain ⟨i0, hi, hz0, hz1, hz2⟩ := info_parts info_str
  obtain ⟨A, c, ev⟩ := rowSlice h.row
  subst ev
  have c0 : w.cell? ⟨lg, 0, none⟩ = some (.pointer (some ⟨g, 0, none⟩)) := Go.Joins.cell_of_block h.cell 0
  have c1 : w.cell? ⟨lg, 1, none⟩ = some (.slice A recs.length c) := Go.Joins.cell_of_block h.cell 1
  have H := Lib.hid h
  clear h hT
  go_enter Tryd.func11, Tryd.ntmps11
  go_wp2
  go_region_with (first
    | (go_at_call 25; refine W0.out.mono ?_; rintro e w5 ⟨rfl, hb5⟩; have c5 := pw_cell_below hb5 (show w.drew.cell? ⟨lg, 0, none⟩ = some (.pointer (some ⟨g, 0, none⟩)) from c0); have F5 := Lib.hid (fileBelow F0.out hb5); replace hb5 := Lib.hid hb5)
    | (go_at_call 17; refine (Dk.append_room B g b sy (writtenB recs.length r) _ F5.out hroom.out).mono ?_; rintro e w6 ⟨rfl, F6, K6⟩; replace F6 := Lib.hid F6; replace K6 := Lib.hid K6))
  all_goals
    have B5 := below_then (Below.refl _ w).drew (Nat.le_refl _) hb5.out
    have hl5 : w5.heap[lg]? = _ := (B5.block lg hlt).trans H.out.cell
    have hl6 := (K6.out.block lg (Array.getElem?_eq_some_iff.1 hl5).1 hne.out (.inr fun c e => by rw [hl5] at e; cases e)).trans hl5
    have r5 := pw_own_below H.out.row B5
    have r6 := rowKept r5 K6.out F5.out
    have c6 : w6.cell? ⟨lg, 1, none⟩ = some (.slice A recs.length c) := Go.Joins.cell_of_block hl6 1
    have hz6 := K6.out.size
    have hz5 := B5.size
    have L6 : LK B g lg (.slice A recs.length c) w w6 := (LK.of_below B5).trans (Moved.refl _ _) (LK.of_keeps K6.out)
    have r7 := r6.alloc (.cells #[.string r] 9)
    have F7 := fileBelow F6.out ((Below.refl _ w6).alloc (Nat.le_refl _) (.cells #[.string r] 9))
    have hl7 := (((Below.refl _ w6).alloc (Nat.le_refl _) (.cells #[.string r] 9)).block lg (Array.getElem?_eq_some_iff.1 hl6).1).trans hl6
    have L7 : LK B g lg (.slice A recs.length c) w (w6.alloc (.cells #[.string r] 9)) := L6.trans (Moved.refl _ _) (LK.of_below ((Below.refl _ w6).alloc (Nat.le_refl _) _))
    replace B5 := Lib.hid B5
    replace hl5 := Lib.hid hl5
    replace hl6 := Lib.hid hl6
    replace hl7 := Lib.hid hl7
    replace r5 := Lib.hid r5
    replace r6 := Lib.hid r6
    replace r7 := Lib.hid r7
    replace F7 := Lib.hid F7
    replace L6 := Lib.hid L6
    replace L7 := Lib.hid L7
    clear c0 c1 W0
    go_wp2_with (at_builtin; refine wpList_append_own_at _ rfl _ _ 22 rfl B 9 i0 (.string ⟨#[]⟩) 1 16 Tryd.underlying22 hi hz0 hz1 hz2 rfl (by decide) _ recs.length (recs.map Value.string) rfl r7.out ⟨w6.heap.size, 0, none⟩ 1 1 [.string r] rfl rfl (cell_one_new _ _ _) (by simp [Value.oneCell']) ?h63 ?hbytes ?hbase ?_)
    case h63 => simp [maxLen]; omega
    case hbytes => omega
    case hbase => simp; omega
    intro v' w8 hown hgrow _ hat
    obtain ⟨A', c', rfl⟩ := rowSlice hown
    have hl8 := (hgrow.block lg (Array.getElem?_eq_some_iff.1 hl7.out).1 (fun e => by
      obtain ⟨cells, hc⟩ := own_typed r7.out lg e.symm
      rw [hl7.out] at hc
      cases hc)).trans hl7.out
    have c8 : w8.cell? ⟨lg, 1, none⟩ = some (.slice A recs.length c) := Go.Joins.cell_of_block hl8 1
    have f8 : w8.frozen? ⟨lg, 1, none⟩ = false := Go.Joins.unfrozen_of_block hl8 1
    have F8 := fileGrown F7.out r7.out hgrow
    have L8 := L7.out.trans (Moved.refl _ _) (LK.of_grown hgrow)
    replace hl8 := Lib.hid hl8
    replace F8 := Lib.hid F8
    replace L8 := Lib.hid L8
    replace hown := Lib.hid hown
    replace hgrow := Lib.hid hgrow
    replace hat := Lib.hid hat
    go_wp2
    go_ret2
    refine ⟨rfl, .slice A' (recs.length + 1) c', ⟨fileSet F8.out hl8.out hne.out _ _, set_at hl8.out _ _, ?_, hge.out, hne.out, ?_⟩, L8.out.trans (Moved.refl _ _) (LK.of_set _ _), ?_⟩
    · have := rowSet hown.out hl8.out 1 (.slice A' (recs.length + 1) c')
      rw [List.length_append, List.map_append]
      exact this
    · rw [app_size, writtenB_size, List.length_append, List.length_singleton]
      omega
    · rcases hat.out with e | e
      · exact .inl e
      · exact .inr ⟨_, e, by omega⟩
set_option maxHeartbeats 1600000 in
theorem nil_append (r : ByteArray) (w : World) (hr : r.size ≤ 9000) : Calls Tryd.prog 11 #[.pointer none, .string r] w fun e w' => e = .returned (.tuple #[.int .i64 0, .int .i64 7]) ∧ w = w' := by
  have h1 : ¬ (9000 : Int) < (r.size : Int) := by omega
  go_enter Tryd.func11, Tryd.ntmps11
  go_wp2
  go_ret2
  exact ⟨rfl, rfl⟩
theorem nil_get (n : Int) (w : World) : Calls Tryd.prog 14 #[.pointer none, .int .i64 n] w fun e w' => e = .returned (.tuple #[.string ⟨#[]⟩, .int .i64 6]) ∧ w = w' := by
  go_enter Tryd.func14, Tryd.ntmps14
  go_wp2
  go_ret2
  exact ⟨rfl, rfl⟩
theorem nil_open (w : World) : Calls Tryd.prog 10 #[.pointer none] w fun e w' => e = .returned (.tuple #[.pointer none, .int .i64 1]) ∧ w = w' := by
  go_enter Tryd.func10, Tryd.ntmps10
  go_wp2
  go_ret2
  exact ⟨rfl, rfl⟩
theorem nil_len (w : World) : Calls Tryd.prog 13 #[.pointer none] w fun e w' => e = .returned (.tuple #[.int .i64 0, .int .i64 0]) ∧ w = w' := by
  go_enter Tryd.func13, Tryd.ntmps13
  go_wp2
  go_ret2
  exact ⟨rfl, rfl⟩
theorem nil_sync (w : World) : Calls Tryd.prog 21 #[.pointer none] w fun e w' => e = .returned (.int .i64 7) ∧ w = w' := by
  go_enter Tryd.func21, Tryd.ntmps21
  go_wp2
  go_ret
  exact ⟨rfl, rfl⟩
theorem nil_records (w : World) : Calls Tryd.prog 20 #[.pointer none] w fun e w' => e = .returned (.slice none 0 0) ∧ w = w' := by
  go_enter Tryd.func20, Tryd.ntmps20
  go_wp2
  go_ret
  exact ⟨rfl, rfl⟩
end Go.Proofs.YtmlfheagbfaoaaaDoor
