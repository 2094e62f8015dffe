/-
  copied, Bound, Pending of a leader: what they answer; maps of one key.
-/
import Derived.Test.YtlmkiekdkonofaaDoorLd
import Derived.Maps.Own
namespace Go.Proofs.YtlmkiekdkonofaaDoor
open Go.RowKit Go.ChangeMaps

abbrev zeroConf : Value := .agg #[.int .i64 0, .int .i64 0, .slice none 0 0]

/-- What answers with the zero config. -/
def Gives0 (w : World) (e : Ending) (w' : World) : Prop := e = .returned zeroConf ∧ Only [] w w'

/-- Two new blocks. -/
theorem new_two (w : World) (o o' : Obj) : ((w.alloc o).alloc o').heap[w.heap.size]? = some o ∧ ((w.alloc o).alloc o').heap[w.heap.size + 1]? = some o' := by
  constructor
  · rw [hp_alloc, if_neg (by simp), hp_alloc, if_pos rfl]
  · rw [hp_alloc, if_pos (by simp)]

/-- The facts on a block that the walk wants. -/
theorem blk3 {w : World} {b : Nat} {x y z : Value} {t : TypeId} (h : w.heap[b]? = some (.cells #[x, y, z] t (0, 0))) :
    b < w.heap.size ∧ (∀ i, w.frozen? ⟨b, i, none⟩ = false) ∧ w.cell? ⟨b, 0, none⟩ = some x ∧ w.cell? ⟨b, 1, none⟩ = some y ∧ w.cell? ⟨b, 2, none⟩ = some z :=
  ⟨hp_lt h, fun i => free_blk h i, cell_blk h 0, cell_blk h 1, cell_blk h 2⟩

theorem Ints.one {w : World} {s : Value} {v : Int} (h : Ints w s [v]) : ∃ g cap, s = .slice (some ⟨g, 0, none⟩) 1 cap ∧ g < w.heap.size ∧ w.cell? ⟨g, 0, none⟩ = some (.int .i64 v) := by
  obtain ⟨g, cap, hs, hg, hc⟩ := h.cell
  exact ⟨g, cap, hs, hg, hc 0 v rfl⟩

set_option maxHeartbeats 1000000 in
theorem copied1 (c : Value) (n v : Int) (w : World) (h : Conf1 w c n v) : Calls Tryd.prog 28 #[c] w (Gives1 n v w) := by
  obtain ⟨s, rfl, hs⟩ := h
  have hs' : Ints ((w.alloc (.cells #[.int .i64 n, .int .i64 1, s] 29)).alloc (.cells #[.int .i64 0, .int .i64 0, .slice none 0 0] 29)) s [v] := hs.keep0 (((Only.refl [] w).alloc _).alloc _)
  have HC := Lib.hid (clone_ints s [v] _ hs' (by simp))
  obtain ⟨g, cap, rfl, _, _⟩ := hs.one
  clear hs hs'
  go_enter Tryd.func28, Tryd.ntmps28
  go_wp2_with fail
  refine HC.out.mono ?_
  rintro e w1 ⟨v1, rfl, hi, ho⟩
  obtain ⟨g1, cap1, rfl, hg1, _⟩ := hi.one
  have HI := Lib.hid hi
  have n2 := new_two w (.cells #[.int .i64 n, .int .i64 1, .slice (some ⟨g, 0, none⟩) 1 cap] 29) (.cells #[.int .i64 0, .int .i64 0, .slice none 0 0] 29)
  have b0 := ho.get0 n2.1
  have b1 := ho.get0 n2.2
  obtain ⟨l0, f0, c00, c01, c02⟩ := blk3 b0
  obtain ⟨l1, f1, c10, c11, c12⟩ := blk3 b1
  have B0 := Lib.hid b0
  have B1 := Lib.hid b1
  have HO := Lib.hid ho
  clear n2 ho hi b0 b1
  go_wp2
  refine bodyPost_ret (v := .agg #[.int .i64 n, .int .i64 1, .slice (some ⟨g1, 0, none⟩) 1 cap1]) ?_ rfl ⟨_, rfl, ⟨_, rfl, ?_⟩, ?_⟩
  · simp [results, Tryd.results28, go_sem, c10, c11, c12]
  · refine HI.out.keep (bs := [w.heap.size, w.heap.size + 1]) ?_ ?_
    · repeat' (first | with_reducible refine Only.alloc ?_ _ | with_reducible refine Only.setCell ?_ _ _ _ (by simp) | with_reducible exact Only.refl _ _)
    · simp [B0.out, B1.out]
  · have h1 := (((Only.refl [] w).alloc (.cells #[.int .i64 n, .int .i64 1, .slice (some ⟨g, 0, none⟩) 1 cap] 29)).alloc (.cells #[.int .i64 0, .int .i64 0, .slice none 0 0] 29)).trans HO.out (by simp)
    repeat' (first | with_reducible exact h1 | with_reducible refine Only.alloc ?_ _ | with_reducible refine Only.setCell ?_ _ _ _ (by simp) | with_reducible exact Only.refl _ _)

set_option maxHeartbeats 1000000 in
theorem copied0 (w : World) : Calls Tryd.prog 28 #[zeroConf] w (Gives0 w) := by
  have HC := Lib.hid (clone_nil ((w.alloc (.cells #[.int .i64 0, .int .i64 0, .slice none 0 0] 29)).alloc (.cells #[.int .i64 0, .int .i64 0, .slice none 0 0] 29)))
  go_enter Tryd.func28, Tryd.ntmps28
  go_wp2_with (go_at_call 37; refine HC.out.mono ?_; rintro e w1 ⟨rfl, rfl⟩)
  refine bodyPost_ret (v := zeroConf) ?_ rfl ⟨rfl, ?_⟩
  · simp [results, Tryd.results28, go_sem]
  · repeat' (first | with_reducible refine Only.alloc ?_ _ | with_reducible refine Only.setCell ?_ _ _ _ (by simp) | with_reducible exact Only.refl _ _)

/-! ### maps of one key -/
section
variable {P : Program} {w : World} {b clock : Nat} {t e : TypeId}

theorem ck (h3 : P.underlying 3 = some (.int .i64)) (k : Int) (e : Bool) : (Instr.checkKey e 10000 3 (.int .i64 k)).run P w = .ok () w := MapKept.run_checkKey h3 (by simp [MapKept.IsKey]) e 9999

theorem look0 (ht : P.underlying t = some (.map 3 e)) (h3 : P.underlying 3 = some (.int .i64)) {z : Value} (hz : (zeroValue e).run P w = .ok z w) (hb : w.heap[b]? = some (.map #[] clock)) (k : Int) (ok : Bool) :
    (Instr.lookup t (.map (some b)) (.int .i64 k) ok).run P w = .ok (if ok then .tuple #[z, .bool false] else z) w := by
  cases ok <;> simp [Instr.lookup, run_underlying ht, run_underlying h3, MapKept.run_getObj_map hb, ck h3, Instr.findKey, Instr.findNow, hz, Result.andThen]

theorem look1 (ht : P.underlying t = some (.map 3 e)) (h3 : P.underlying 3 = some (.int .i64)) {v : Value} {born : Nat} {k : Int} (hb : w.heap[b]? = some (.map #[⟨.int .i64 k, v, born⟩] clock)) (ok : Bool) :
    (Instr.lookup t (.map (some b)) (.int .i64 k) ok).run P w = .ok (if ok then .tuple #[v, .bool true] else v) w := by
  cases ok <;> simp [Instr.lookup, run_underlying ht, run_underlying h3, MapKept.run_getObj_map hb, ck h3, Instr.findKey, Instr.findNow, Instr.sameNow, Result.andThen]

theorem upd0 (ht : P.underlying t = some (.map 3 e)) (h3 : P.underlying 3 = some (.int .i64)) (hb : w.heap[b]? = some (.map #[] clock)) (k : Int) (v : Value) :
    (Instr.mapUpdate t (.map (some b)) (.int .i64 k) v).run P w = .ok () (setBlock w b (.map #[⟨.int .i64 k, v, clock⟩] (clock + 1))) := by
  simp [Instr.mapUpdate, run_underlying ht, run_underlying h3, MapKept.run_getObj_map hb, ck h3, Instr.findKey, Instr.findNow, MapKept.run_setObj_map _ hb, Result.andThen, setBlock]

theorem upd1 (ht : P.underlying t = some (.map 3 e)) (h3 : P.underlying 3 = some (.int .i64)) {u : Value} {born : Nat} {k : Int} (hb : w.heap[b]? = some (.map #[⟨.int .i64 k, u, born⟩] clock)) (v : Value) :
    (Instr.mapUpdate t (.map (some b)) (.int .i64 k) v).run P w = .ok () (setBlock w b (.map #[⟨.int .i64 k, v, born⟩] clock)) := by
  simp [Instr.mapUpdate, run_underlying ht, run_underlying h3, MapKept.run_getObj_map hb, ck h3, Instr.findKey, Instr.findNow, Instr.sameNow, Instr.keyThatStays, Instr.sameBits, MapKept.run_setObj_map _ hb, Result.andThen, setBlock]

theorem hp_map (hb : b < w.heap.size) (o : Obj) (k : Nat) : (setBlock w b o).heap[k]? = if k = b then some o else w.heap[k]? := by
  show (w.heap.setIfInBounds b o)[k]? = _
  by_cases h : k = b
  · subst h; simp [hb]
  · rw [if_neg h, Array.getElem?_setIfInBounds_ne (fun e => h e.symm)]
end

/-- The map of what binds holds nothing. -/
def MB0 (w : World) (M : Nat) : Prop := ∃ clock, w.heap[M]? = some (.map #[] clock)
/-- It holds a vote of the ballot vb for the config n of the replica v. -/
def MB1 (w : World) (M : Nat) (n vb v : Int) : Prop := ∃ s born clock, w.heap[M]? = some (.map #[⟨.int .i64 n, .agg #[.int .i64 vb, .int .i64 n, .int .i64 1, s], born⟩] clock) ∧ Ints w s [v]

theorem zero31 (w : World) : (zeroValue 31).run Tryd.prog w = .ok (.agg #[.int .i64 0, .int .i64 0, .int .i64 0, .slice none 0 0]) w := by kernel_rfl

/-- What Bound answers where there is none, and where there is one. -/
def Bound0 (w : World) (e : Ending) (w' : World) : Prop := e = .returned (.tuple #[zeroConf, .bool false]) ∧ Only [] w w'
def Bound1 (n v : Int) (w : World) (e : Ending) (w' : World) : Prop := ∃ c, e = .returned (.tuple #[c, .bool true]) ∧ Conf1 w' c n v ∧ Only [] w w'

set_option maxHeartbeats 1000000 in
set_option maxRecDepth 100000 in
theorem bound0 (L M : Nat) (n : Int) (w : World) (h5 : w.cell? ⟨L, 5, none⟩ = some (.map (some M))) (h8 : w.cell? ⟨L, 8, none⟩ = some (.bool true)) (hM : MB0 w M) :
    Calls Tryd.prog 9 #[.pointer (some ⟨L, 0, none⟩), .int .i64 n] w (Bound0 w) := by
  have hlt : L < w.heap.size := World.block_lt_of_cell? _ _ h5
  obtain ⟨clock, hb⟩ := hM
  have HN := Lib.hid (none_any L (w.alloc (.cells #[.int .i64 0, .int .i64 0, .slice none 0 0] 29)) (cell_alloc_l _ h8))
  have hlk := look0 Tryd.underlying80 Tryd.underlying3 (w := w.alloc (.cells #[.int .i64 0, .int .i64 0, .slice none 0 0] 29)) (zero31 _) ((Below.heap_alloc _ _ _ (hp_lt hb)).trans hb) n true
  clear hb
  go_enter Tryd.func9, Tryd.ntmps9
  go_wp2_with fail
  refine HN.out.mono ?_
  rintro e w1 ⟨rfl, rfl⟩
  go_wp2_with fail
  refine (copied0 _).mono ?_
  rintro e w2 ⟨rfl, ho⟩
  have b0 := ho.get0 (new_two w (.cells #[.int .i64 0, .int .i64 0, .slice none 0 0] 29) (.cells #[.int .i64 0, .int .i64 0, .int .i64 0, .slice none 0 0] 31)).1
  obtain ⟨l0, f0, c00, c01, c02⟩ := blk3 b0
  have HO := Lib.hid ho
  clear ho b0 HN
  go_wp2
  refine bodyPost_ret (v := .tuple #[zeroConf, .bool false]) ?_ rfl ⟨rfl, ?_⟩
  · simp [results, Tryd.results9, go_sem, c00, c01, c02]
  · have h1 := (((Only.refl [] w).alloc (.cells #[.int .i64 0, .int .i64 0, .slice none 0 0] 29)).alloc (.cells #[.int .i64 0, .int .i64 0, .int .i64 0, .slice none 0 0] 31)).trans HO.out (by simp)
    repeat' (first | with_reducible assumption | with_reducible refine Only.alloc ?_ _ | with_reducible refine Only.setCell ?_ _ _ _ (by simp) | with_reducible exact Only.refl _ _)

set_option maxHeartbeats 1000000 in
set_option maxRecDepth 100000 in
theorem bound1 (L M : Nat) (n vb v : Int) (w : World) (h5 : w.cell? ⟨L, 5, none⟩ = some (.map (some M))) (h8 : w.cell? ⟨L, 8, none⟩ = some (.bool true)) (hM : MB1 w M n vb v) :
    Calls Tryd.prog 9 #[.pointer (some ⟨L, 0, none⟩), .int .i64 n] w (Bound1 n v w) := by
  have hlt : L < w.heap.size := World.block_lt_of_cell? _ _ h5
  obtain ⟨s, born, clock, hb, hs⟩ := hM
  obtain ⟨g, cap, rfl, _, _⟩ := hs.one
  have HN := Lib.hid (none_any L (w.alloc (.cells #[.int .i64 0, .int .i64 0, .slice none 0 0] 29)) (cell_alloc_l _ h8))
  have hlk := look1 Tryd.underlying80 Tryd.underlying3 (w := w.alloc (.cells #[.int .i64 0, .int .i64 0, .slice none 0 0] 29)) ((Below.heap_alloc _ _ _ (hp_lt hb)).trans hb) true
  have HS := Lib.hid hs
  clear hb hs
  go_enter Tryd.func9, Tryd.ntmps9
  go_wp2_with fail
  refine HN.out.mono ?_
  rintro e w1 ⟨rfl, rfl⟩
  go_wp2_with fail
  refine (copied1 _ n v _ ⟨_, rfl, HS.out.keep0 (((Only.refl [] w).alloc _).alloc _)⟩).mono ?_
  rintro e w2 ⟨c, rfl, ⟨s2, rfl, hs2⟩, ho⟩
  obtain ⟨g2, cap2, rfl, _, _⟩ := hs2.one
  have b0 := ho.get0 (new_two w (.cells #[.int .i64 0, .int .i64 0, .slice none 0 0] 29) (.cells #[.int .i64 vb, .int .i64 n, .int .i64 1, .slice (some ⟨g, 0, none⟩) 1 cap] 31)).1
  obtain ⟨l0, f0, c00, c01, c02⟩ := blk3 b0
  have HO := Lib.hid ho
  have B0 := Lib.hid b0
  have H2 := Lib.hid hs2
  clear ho b0 HN hs2
  go_wp2
  refine bodyPost_ret (v := .tuple #[.agg #[.int .i64 n, .int .i64 1, .slice (some ⟨g2, 0, none⟩) 1 cap2], .bool true]) ?_ rfl ⟨_, rfl, ⟨_, rfl, ?_⟩, ?_⟩
  · simp [results, Tryd.results9, go_sem, c00, c01, c02]
  · refine H2.out.keep (bs := [w.heap.size]) ?_ (by simp [B0.out])
    repeat' (first | with_reducible assumption | with_reducible refine Only.alloc ?_ _ | with_reducible refine Only.setCell ?_ _ _ _ (by simp) | with_reducible exact Only.refl _ _)
  · have h1 := (((Only.refl [] w).alloc (.cells #[.int .i64 0, .int .i64 0, .slice none 0 0] 29)).alloc (.cells #[.int .i64 vb, .int .i64 n, .int .i64 1, .slice (some ⟨g, 0, none⟩) 1 cap] 31)).trans HO.out (by simp)
    repeat' (first | with_reducible assumption | with_reducible refine Only.alloc ?_ _ | with_reducible refine Only.setCell ?_ _ _ _ (by simp) | with_reducible exact Only.refl _ _)

set_option maxHeartbeats 1000000 in
set_option maxRecDepth 100000 in
theorem pending0 (L : Nat) (w : World) (h6 : w.cell? ⟨L, 6, none⟩ = some (.pointer none)) (h8 : w.cell? ⟨L, 8, none⟩ = some (.bool true)) :
    Calls Tryd.prog 29 #[.pointer (some ⟨L, 0, none⟩)] w (Bound0 w) := by
  have hlt : L < w.heap.size := World.block_lt_of_cell? _ _ h6
  have HN := Lib.hid (none_any L (w.alloc (.cells #[.int .i64 0, .int .i64 0, .slice none 0 0] 29)) (cell_alloc_l _ h8))
  go_enter Tryd.func29, Tryd.ntmps29
  go_wp2_with fail
  refine HN.out.mono ?_
  rintro e w1 ⟨rfl, rfl⟩
  clear HN
  go_wp2_with fail
  refine bodyPost_ret (v := .tuple #[zeroConf, .bool false]) ?_ rfl ⟨rfl, ?_⟩
  · simp [results, Tryd.results29, go_sem]
  · repeat' (first | with_reducible assumption | with_reducible refine Only.alloc ?_ _ | with_reducible refine Only.setCell ?_ _ _ _ (by simp) | with_reducible exact Only.refl _ _)

set_option maxHeartbeats 1000000 in
set_option maxRecDepth 100000 in
theorem pending1 (L Pb : Nat) (n v : Int) (cs : Array Value) (w : World) (h6 : w.cell? ⟨L, 6, none⟩ = some (.pointer (some ⟨Pb, 0, none⟩))) (h8 : w.cell? ⟨L, 8, none⟩ = some (.bool true))
    (hP : w.heap[Pb]? = some (.cells cs 29 (0, 0))) (hc : Conf1 w (.agg cs) n v) :
    Calls Tryd.prog 29 #[.pointer (some ⟨L, 0, none⟩)] w (Bound1 n v w) := by
  have hlt : L < w.heap.size := World.block_lt_of_cell? _ _ h6
  obtain ⟨s, hcs, hs⟩ := hc
  simp only [Value.agg.injEq] at hcs
  subst hcs
  obtain ⟨g, cap, rfl, _, _⟩ := hs.one
  obtain ⟨lp, fp, cp0, cp1, cp2⟩ := blk3 hP
  have HN := Lib.hid (none_any L (w.alloc (.cells #[.int .i64 0, .int .i64 0, .slice none 0 0] 29)) (cell_alloc_l _ h8))
  have HS := Lib.hid hs
  clear hP hs
  go_enter Tryd.func29, Tryd.ntmps29
  go_wp2_with fail
  refine HN.out.mono ?_
  rintro e w1 ⟨rfl, rfl⟩
  go_wp2_with fail
  refine (copied1 _ n v _ ⟨_, rfl, HS.out.keep0 ((Only.refl [] w).alloc _)⟩).mono ?_
  rintro e w2 ⟨c, rfl, ⟨s2, rfl, hs2⟩, ho⟩
  obtain ⟨g2, cap2, rfl, _, _⟩ := hs2.one
  have b0 := ho.get0 (heap_alloc_new w (.cells #[.int .i64 0, .int .i64 0, .slice none 0 0] 29))
  obtain ⟨l0, f0, c00, c01, c02⟩ := blk3 b0
  have HO := Lib.hid ho
  have B0 := Lib.hid b0
  have H2 := Lib.hid hs2
  clear ho b0 HN hs2
  go_wp2
  refine bodyPost_ret (v := .tuple #[.agg #[.int .i64 n, .int .i64 1, .slice (some ⟨g2, 0, none⟩) 1 cap2], .bool true]) ?_ rfl ⟨_, rfl, ⟨_, rfl, ?_⟩, ?_⟩
  · simp [results, Tryd.results29, go_sem, c00, c01, c02]
  · refine H2.out.keep (bs := [w.heap.size]) ?_ (by simp [B0.out])
    repeat' (first | with_reducible assumption | with_reducible refine Only.alloc ?_ _ | with_reducible refine Only.setCell ?_ _ _ _ (by simp) | with_reducible exact Only.refl _ _)
  · have h1 := ((Only.refl [] w).alloc (.cells #[.int .i64 0, .int .i64 0, .slice none 0 0] 29)).trans HO.out (by simp)
    repeat' (first | with_reducible assumption | with_reducible refine Only.alloc ?_ _ | with_reducible refine Only.setCell ?_ _ _ _ (by simp) | with_reducible exact Only.refl _ _)
end Go.Proofs.YtlmkiekdkonofaaDoor
