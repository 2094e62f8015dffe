/-
  CONFIGS: slices.Clone at []int, and what conf makes.
-/
import Derived.Test.YtlmkiekdkonofaaDoorLc
import Derived.Lib.Walk
import Derived.Lib.SliceRun
namespace Go.Proofs.YtlmkiekdkonofaaDoor
open Go.RowKit

/-- A slice that is not nil, at the head of a block of ints, and reads as zs. -/
def Ints (w : World) (s : Value) (zs : List Int) : Prop :=
  ∃ g cap cur, s = .slice (some ⟨g, 0, none⟩) zs.length cap ∧ w.heap[g]? = some (.cells cur 3 (0, 0)) ∧ zs.length ≤ cap ∧ cap ≤ maxLen ∧ cur.size = cap ∧ cur.toList.take zs.length = zs.map (Value.int .i64)

theorem Ints.of_row {w : World} {B n : Nat} {s : Value} {zs : List Int} (h : w.ownsRow B 3 1 s n (zs.map (Value.int .i64))) (hn : s ≠ .slice none 0 0) : Ints w s zs := by
  obtain ⟨h1, h2⟩ := h
  simp at h1
  rcases h2 with ⟨h2, _⟩ | ⟨g, cap, cur, hv, _, hh, a, b, c, d⟩
  · exact absurd h2 hn
  · subst h1
    refine ⟨g, cap, cur, hv, hh, a, b, by simpa using c, by simpa using d⟩

/-- It stays where the blocks that changed are none of ints. -/
theorem Ints.keep {w w' : World} {s : Value} {zs : List Int} {bs : List Nat} (h : Ints w s zs) (ho : Only bs w w') (hb : ∀ b ∈ bs, ∀ cur f, w.heap[b]? ≠ some (.cells cur 3 f)) : Ints w' s zs := by
  obtain ⟨g, cap, cur, hv, hh, r⟩ := h
  exact ⟨g, cap, cur, hv, ho.get hh (fun hm => hb g hm cur _ hh), r⟩
theorem Ints.keep0 {w w' : World} {s : Value} {zs : List Int} (h : Ints w s zs) (ho : Only [] w w') : Ints w' s zs := h.keep ho (by simp)
theorem Ints.len {w : World} {s : Value} {zs : List Int} (h : Ints w s zs) : zs.length ≤ maxLen := by
  obtain ⟨g, cap, cur, hv, hh, a, b, r⟩ := h
  omega
theorem Ints.cell {w : World} {s : Value} {zs : List Int} (h : Ints w s zs) : ∃ g cap, s = .slice (some ⟨g, 0, none⟩) zs.length cap ∧ g < w.heap.size ∧ ∀ j z, zs[j]? = some z → w.cell? ⟨g, j, none⟩ = some (.int .i64 z) := by
  obtain ⟨g, cap, cur, hv, hh, a, b, c, d⟩ := h
  refine ⟨g, cap, hv, hp_lt hh, fun j z hj => ?_⟩
  rw [cell_blk hh]
  have hlt : j < zs.length := (List.getElem?_eq_some_iff.1 hj).1
  have e : (cur.toList.take zs.length)[j]? = (zs.map (Value.int .i64))[j]? := by rw [d]
  rw [List.getElem?_take_of_lt hlt, List.getElem?_map, hj] at e
  simpa using e

theorem Tryd.info3 : (Tryd.prog.info? 3).map (fun i => (i.zero, i.size, i.bytes)) = some (some (.int .i64 0), 1, 8) := by kernel_rfl

/-- What slices.Clone answers: a slice of its own, that reads as zs. -/
def Cloned (zs : List Int) (w : World) (e : Ending) (w' : World) : Prop := ∃ v, e = .returned v ∧ Ints w' v zs ∧ Only [] w w'

set_option maxHeartbeats 2000000 in
set_option maxRecDepth 100000 in
theorem clone_ints (s : Value) (zs : List Int) (w : World) (h : Ints w s zs) (hz : zs.length ≤ 1000) :
    Calls Tryd.prog 37 #[s] w (Cloned zs w) := by
  obtain ⟨g, cap, rfl, hg, hc⟩ := h.cell
  obtain ⟨i0, hi, hz0, hz1, hz2⟩ := info_parts Tryd.info3
  have q27 : ∀ (w : World) (a : Option Addr) (n c n' c' : Nat), (binOp .eql 27 (.slice a n c) (.slice none n' c')).run Tryd.prog w = .ok (.bool a.isNone) w := fun w a n c n' c' => Lib.run_eql_slice_nil w _ _ a n c n' c' Tryd.underlying27
  have HC := Lib.hid hc
  have HH := Lib.hid h
  clear hc h
  go_enter Tryd.func37, Tryd.ntmps37
  go_wp2_with (at_builtin; refine wpList_append_own _ rfl _ _ 27 rfl w.heap.size 3 i0 (.int .i64 0) 1 8 Tryd.underlying27 hi hz0 hz1 hz2 rfl (by decide) _ _ _ rfl (World.ownsRow_made w #[] 0 (Nat.le_refl _) (Nat.zero_le _) rfl) ⟨g, 0, none⟩ zs.length cap (zs.map (Value.int .i64)) rfl ?qc1 ?qc2 ?qc3 ?qc4 ?qc5 ?qc6 ?_)
  case qc1 => simp
  case qc2 =>
    intro j u hj
    rw [Addr.add_lit]
    refine Lib.cell?_alloc_some _ ?_
    simp only [List.getElem?_map, Option.map_eq_some_iff] at hj
    obtain ⟨z, hz, rfl⟩ := hj
    simpa using HC.out j z hz
  case qc3 => intro u hu; obtain ⟨x, _, rfl⟩ := List.mem_map.1 hu; rfl
  case qc4 => unfold maxLen; omega
  case qc5 => omega
  case qc6 => simp
  intro v' w1 hown hgrow hnil
  go_wp2
  go_ret
  refine ⟨v', rfl, Ints.of_row (by simpa using hown) ?_, ?_⟩
  · exact hnil
  · exact ((Only.refl [] w).alloc _).grown hgrow (by intro k hk; simp [Value.ownBlock] at hk; omega)

set_option maxHeartbeats 400000 in
theorem clone_nil (w : World) : Calls Tryd.prog 37 #[.slice none 0 0] w fun e w' => e = .returned (.slice none 0 0) ∧ w = w' := by
  have q27 : ∀ (w : World) (a : Option Addr) (n c n' c' : Nat), (binOp .eql 27 (.slice a n c) (.slice none n' c')).run Tryd.prog w = .ok (.bool a.isNone) w := fun w a n c n' c' => Lib.run_eql_slice_nil w _ _ a n c n' c' Tryd.underlying27
  go_enter Tryd.func37, Tryd.ntmps37
  go_wp2
  go_ret
  exact ⟨rfl, rfl⟩

/-- A config of one replica, as conf makes it. -/
def Conf1 (w : World) (c : Value) (n v : Int) : Prop := ∃ s, c = .agg #[.int .i64 n, .int .i64 1, s] ∧ Ints w s [v]
theorem Conf1.keep {w w' : World} {c : Value} {n v : Int} {bs : List Nat} (h : Conf1 w c n v) (ho : Only bs w w') (hb : ∀ b ∈ bs, ∀ cur f, w.heap[b]? ≠ some (.cells cur 3 f)) : Conf1 w' c n v := by
  obtain ⟨s, hc, hs⟩ := h
  exact ⟨s, hc, hs.keep ho hb⟩

/-- What answers with a config of its own. -/
def Gives1 (n v : Int) (w : World) (e : Ending) (w' : World) : Prop := ∃ c, e = .returned c ∧ Conf1 w' c n v ∧ Only [] w w'

set_option maxHeartbeats 400000 in
theorem conf_any (n k : Int) (w : World) : Calls Tryd.prog 21 #[.int .i64 n, .int .i64 k] w (Gives1 n k w) := by
  go_enter Tryd.func21, Tryd.ntmps21
  go_wp2
  refine bodyPost_ret (v := .agg #[.int .i64 n, .int .i64 1, .slice (some ⟨w.heap.size + 1, 0, none⟩) 1 1]) (by simp [results, Tryd.results21, go_sem]) rfl ⟨_, rfl, ⟨_, rfl, ?_⟩, ?_⟩
  · refine ⟨_, _, #[.int .i64 k], rfl, ?_, by simp, by decide, rfl, rfl⟩
    rw [hp_alloc, if_pos (by simp)]
  · exact ((Only.refl [] w).alloc _).alloc _

end Go.Proofs.YtlmkiekdkonofaaDoor
