/-
  THE LEADER: its block in memory; New, Start, none, master, Phase, From, Ballot.
-/
import Derived.Test.YtlmkiekdkonofaaDoorLb
import Derived.Test.YtlmkiekdkonofaaDoorMem
import Derived.Lib.Hide
import Derived.WalkSpells
import Derived.WalkLawsBesides
namespace Go.Proofs.YtlmkiekdkonofaaDoor
open Go.RowKit

set_option maxHeartbeats 400000 in
theorem none_any (L : Nat) (w : World) (h : w.cell? ⟨L, 8, none⟩ = some (.bool true)) :
    Calls Tryd.prog 27 #[.pointer (some ⟨L, 0, none⟩)] w fun e w' => e = .returned (.bool false) ∧ w = w' := by
  go_enter Tryd.func27, Tryd.ntmps27
  go_wp2
  go_ret
  exact ⟨rfl, rfl⟩

set_option maxHeartbeats 400000 in
theorem master_any (L : Nat) (k : Int) (w : World) (h : w.cell? ⟨L, 8, none⟩ = some (.bool true)) (h0 : 0 ≤ k) (h1 : k < 3) :
    Calls Tryd.prog 44 #[.pointer (some ⟨L, 0, none⟩), .int .i64 k] w fun e w' => e = .returned (.int .i64 0) ∧ w = w' := by
  go_enter Tryd.func44, Tryd.ntmps44
  go_wp2_with (go_at_call 27; refine (none_any _ _ h).mono ?_; rintro e w' ⟨rfl, rfl⟩)
  go_ret
  exact ⟨rfl, rfl⟩

set_option maxHeartbeats 400000 in
theorem phase_any (L : Nat) (p : Int) (w : World) (h : w.cell? ⟨L, 8, none⟩ = some (.bool true)) (h3 : w.cell? ⟨L, 3, none⟩ = some (.int .i64 p)) :
    Calls Tryd.prog 10 #[.pointer (some ⟨L, 0, none⟩)] w fun e w' => e = .returned (.int .i64 p) ∧ w = w' := by
  go_enter Tryd.func10, Tryd.ntmps10
  go_wp2_with (go_at_call 27; refine (none_any _ _ h).mono ?_; rintro e w' ⟨rfl, rfl⟩)
  go_ret
  exact ⟨rfl, rfl⟩

set_option maxHeartbeats 400000 in
theorem from_any (L : Nat) (p : Int) (w : World) (h : w.cell? ⟨L, 8, none⟩ = some (.bool true)) (h3 : w.cell? ⟨L, 2, none⟩ = some (.int .i64 p)) :
    Calls Tryd.prog 25 #[.pointer (some ⟨L, 0, none⟩)] w fun e w' => e = .returned (.int .i64 p) ∧ w = w' := by
  go_enter Tryd.func25, Tryd.ntmps25
  go_wp2_with (go_at_call 27; refine (none_any _ _ h).mono ?_; rintro e w' ⟨rfl, rfl⟩)
  go_ret
  exact ⟨rfl, rfl⟩

set_option maxHeartbeats 400000 in
theorem ballot_any (L : Nat) (p : Int) (w : World) (h : w.cell? ⟨L, 8, none⟩ = some (.bool true)) (h3 : w.cell? ⟨L, 1, none⟩ = some (.int .i64 p)) :
    Calls Tryd.prog 30 #[.pointer (some ⟨L, 0, none⟩)] w fun e w' => e = .returned (.int .i64 p) ∧ w = w' := by
  go_enter Tryd.func30, Tryd.ntmps30
  go_wp2_with (go_at_call 27; refine (none_any _ _ h).mono ?_; rintro e w' ⟨rfl, rfl⟩)
  go_ret
  exact ⟨rfl, rfl⟩

/-- The block L is a leader with these fields. -/
def LB (w : World) (L : Nat) (id bal frm ph : Int) (pm : Nat) (mp : Option Nat) (pd : Option Addr) (sd : Nat) : Prop :=
  w.heap[L]? = some (.cells #[.int .i64 id, .int .i64 bal, .int .i64 frm, .int .i64 ph, .int .u64 pm, .map mp, .pointer pd, .int .u64 sd, .bool true] 83 (0, 0))

theorem LB.facts {w : World} {L : Nat} {id bal frm ph : Int} {pm : Nat} {mp : Option Nat} {pd : Option Addr} {sd : Nat} (h : LB w L id bal frm ph pm mp pd sd) :
    L < w.heap.size ∧ (∀ i, w.frozen? ⟨L, i, none⟩ = false) ∧ w.cell? ⟨L, 0, none⟩ = some (.int .i64 id) ∧ w.cell? ⟨L, 1, none⟩ = some (.int .i64 bal) ∧ w.cell? ⟨L, 2, none⟩ = some (.int .i64 frm) ∧ w.cell? ⟨L, 3, none⟩ = some (.int .i64 ph) ∧
    w.cell? ⟨L, 4, none⟩ = some (.int .u64 pm) ∧ w.cell? ⟨L, 5, none⟩ = some (.map mp) ∧ w.cell? ⟨L, 6, none⟩ = some (.pointer pd) ∧ w.cell? ⟨L, 7, none⟩ = some (.int .u64 sd) ∧ w.cell? ⟨L, 8, none⟩ = some (.bool true) :=
  ⟨hp_lt h, fun i => free_blk h i, cell_blk h 0, cell_blk h 1, cell_blk h 2, cell_blk h 3, cell_blk h 4, cell_blk h 5, cell_blk h 6, cell_blk h 7, cell_blk h 8⟩

set_option maxHeartbeats 400000 in
theorem new_any (k : Int) (w : World) (h0 : 0 ≤ k) (h1 : k < 3) :
    Calls Tryd.prog 6 #[.int .i64 k] w fun e w' => e = .returned (.tuple #[.pointer (some ⟨w.heap.size, 0, none⟩), .int .i64 0]) ∧ LB w' w.heap.size k 0 0 0 0 none none 0 ∧ Only [] w w' := by
  go_enter Tryd.func6, Tryd.ntmps6
  go_wp2
  go_ret2
  exact ⟨rfl, heap_alloc_new w _, (Only.refl _ _).alloc _⟩

/-- The least ballot of a master that is above m. -/
def nextB (id m : Int) : Int := m + 1 + (id - (m + 1)) % 3

set_option maxHeartbeats 400000 in
theorem start_any (L : Nat) (a f id bal frm ph : Int) (pm : Nat) (mp : Option Nat) (pd : Option Addr) (sd : Nat) (w : World) (hL : LB w L id bal frm ph pm mp pd sd)
    (ha0 : 0 ≤ a) (ha1 : a ≤ 9007199254740988) (hf0 : 1 ≤ f) (hf1 : f ≤ 9007199254740991) (hid0 : 0 ≤ id) (hid1 : id < 3) (hb0 : 0 ≤ bal) (hb1 : bal ≤ 9007199254740991) :
    Calls Tryd.prog 19 #[.pointer (some ⟨L, 0, none⟩), .int .i64 a, .int .i64 f] w fun e w' => e = .returned (.tuple #[.int .i64 (nextB id (max a bal)), .int .i64 0]) ∧ LB w' L id (nextB id (max a bal)) f 1 0 (some w.heap.size) none 0 ∧
      w'.heap[w.heap.size]? = some (.map #[] 0) ∧ Only [L] w w' := by
  have hmm := @run_makeMap Tryd.prog
  obtain ⟨hlt, hfz, c0, c1, c2, c3, c4, c5, c6, c7, c8⟩ := hL.facts
  have hn := none_any L w c8
  have HN := Lib.hid hn
  have HL := Lib.hid hL
  have hne : L ≠ w.heap.size := by omega
  have HE := Lib.hid hne
  clear hn hL hne
  go_enter Tryd.func19, Tryd.ntmps19
  go_wp2_with (first | (go_at_call 27; refine (HN.out).mono ?_; rintro e w' ⟨rfl, rfl⟩) | go_in)
  · have h : a < bal := by assumption
    go_ret2
    refine ⟨?_, ?_, ?_, ?_⟩
    · rw [Int.max_eq_right (by omega)]; rfl
    · unfold LB
      rw [Int.max_eq_right (by omega)]
      have h1 := HL.out
      unfold LB at h1
      simp [hp_set, hp_alloc, h1, HE.out, setc, nextB]
    · rw [hp_alloc, if_pos (by simp)]
    · repeat' (first | with_reducible refine Only.alloc ?_ _ | with_reducible refine Only.setCell ?_ _ _ _ (by simp) | with_reducible exact Only.refl _ _)
  · have h : bal ≤ a := by assumption
    go_ret2
    refine ⟨?_, ?_, ?_, ?_⟩
    · rw [Int.max_eq_left (by omega)]; rfl
    · unfold LB
      rw [Int.max_eq_left (by omega)]
      have h1 := HL.out
      unfold LB at h1
      simp [hp_set, hp_alloc, h1, HE.out, setc, nextB]
    · rw [hp_alloc, if_pos (by simp)]
    · repeat' (first | with_reducible refine Only.alloc ?_ _ | with_reducible refine Only.setCell ?_ _ _ _ (by simp) | with_reducible exact Only.refl _ _)

end Go.Proofs.YtlmkiekdkonofaaDoor
