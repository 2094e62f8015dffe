/-
  THE LEAVES OF LeadAgrees: what Bring, none, master, the set's with and many, and the trailing zeros answer.
-/
import Derived.Test.YtlmkiekdkonofaaDoorProg
import Derived.WalkKit
import Derived.WalkSpells
import Derived.WalkLawsBesides
import Derived.Lib.Hide
namespace Go.Proofs.YtlmkiekdkonofaaDoor
open Go.RowKit

theorem ret_int {k : IntKind} {a b : Int} (h : a = b) : Ending.returned (.int k a) = .returned (.int k b) := by rw [h]

theorem tmod3 (a : Int) : (a.tmod 3 < 0 → a.tmod 3 + 3 = a % 3 ∧ -3 < a.tmod 3) ∧ (0 ≤ a.tmod 3 → a.tmod 3 = a % 3) := by
  rcases Int.le_total 0 a with h | h
  · rw [Int.tmod_eq_emod_of_nonneg h]; omega
  · obtain ⟨b, rfl⟩ : ∃ b, a = -b := ⟨-a, by omega⟩
    rw [Int.neg_tmod, Int.tmod_eq_emod_of_nonneg (by omega)]; omega

set_option maxHeartbeats 400000 in
theorem bring3 (a : Int) (w : World) :
    Calls Tryd.prog 7 #[.int .i64 a, .int .i64 3] w fun e w' => e = .returned (.int .i64 (a % 3)) ∧ w = w' := by
  have h3 := Lib.hid (tmod3 a)
  go_enter Tryd.func7, Tryd.ntmps7
  go_wp2
  · have h : a.tmod 3 < 0 := by assumption
    go_ret
    exact ⟨ret_int (by have := h3.out.1 h; unfold wrap64; omega), rfl⟩
  · have h : 0 ≤ a.tmod 3 := by assumption
    go_ret
    exact ⟨ret_int (h3.out.2 h), rfl⟩

def orB (s k : Nat) : Nat := s ||| (1 <<< k)

theorem orB_bits (s k : Nat) (h0 : s < 8) (h1 : k < 3) : bits BinOp.or IntKind.u64 (↑s) (IntKind.u64.wrap (2 ^ k)) = ↑(orB s k) := by
  have h : s = 0 ∨ s = 1 ∨ s = 2 ∨ s = 3 ∨ s = 4 ∨ s = 5 ∨ s = 6 ∨ s = 7 := by omega
  have h' : k = 0 ∨ k = 1 ∨ k = 2 := by omega
  rcases h' with rfl | rfl | rfl <;> rcases h with rfl | rfl | rfl | rfl | rfl | rfl | rfl | rfl <;> rfl

set_option maxHeartbeats 400000 in
theorem with_any (s k : Nat) (w : World) (h0 : s < 8) (h1 : k < 3) :
    Calls Tryd.prog 45 #[.int .u64 s, .int .i64 k] w fun e w' => e = .returned (.int .u64 (orB s k : Nat)) ∧ w = w' := by
  go_enter Tryd.func45, Tryd.ntmps45
  go_wp2
  go_ret
  exact ⟨ret_int (orB_bits s k h0 h1), rfl⟩

def cnt (s : Nat) : Nat := s % 2 + s / 2 % 2 + s / 4

set_option maxHeartbeats 400000 in
theorem ones_any (s : Nat) (w : World) (h0 : s < 8) :
    Calls Tryd.prog 58 #[.int .u64 s] w fun e w' => e = .returned (.int .i64 (cnt s)) ∧ w = w' := by
  have h : s = 0 ∨ s = 1 ∨ s = 2 ∨ s = 3 ∨ s = 4 ∨ s = 5 ∨ s = 6 ∨ s = 7 := by omega
  rcases h with rfl | rfl | rfl | rfl | rfl | rfl | rfl | rfl
  all_goals
    go_enter Tryd.func58, Tryd.ntmps58
    go_wp2
    go_ret
    refine ⟨ret_int ?_, rfl⟩
    kernel_rfl

set_option maxHeartbeats 400000 in
theorem many_any (s : Nat) (w : World) (h0 : s < 8) :
    Calls Tryd.prog 48 #[.int .u64 s] w fun e w' => e = .returned (.int .i64 (cnt s)) ∧ w = w' := by
  go_enter Tryd.func48, Tryd.ntmps48
  go_wp2_with (first | (go_at_call 58; refine (ones_any _ _ h0).mono ?_; rintro e w' ⟨rfl, rfl⟩) | go_in)
  go_ret
  exact ⟨rfl, rfl⟩


/-- The table of trailing zeros can be read. -/
def Tab (w : World) : Prop := ∀ i : Nat, i < 64 → ∃ q : Int, w.cell? ⟨1, i, none⟩ = some (.int .u8 q) ∧ 0 ≤ q ∧ q ≤ 255

set_option maxHeartbeats 400000 in
theorem tz_at (s i : Nat) (q : Int) (w : World) (hw : (IntKind.u64.wrap (bits BinOp.and IntKind.u64 s (IntKind.u64.wrap (-s)) * 285870213051353865) / 288230376151711744) = i) (hs : (s == 0) = false) (hi : i < 64)
    (hL : w.cell? ⟨1, i, none⟩ = some (.int .u8 q)) (h0 : 0 ≤ q) (h1 : q ≤ 255) :
    Calls Tryd.prog 61 #[.int .u64 s] w fun e w' => e = .returned (.int .i64 q) ∧ w = w' := by
  have hb : ((s : Int) == 0) = false := by simpa using hs
  go_enter Tryd.func61, Tryd.ntmps61
  go_wp2
  go_ret
  exact ⟨rfl, rfl⟩

theorem tz_ex (s : Nat) (w : World) (h0 : 0 < s) (h1 : s < 8) (hT : Tab w) : ∃ q : Int, Calls Tryd.prog 61 #[.int .u64 s] w fun e w' => e = .returned (.int .i64 q) ∧ w = w' := by
  have h : s = 1 ∨ s = 2 ∨ s = 3 ∨ s = 4 ∨ s = 5 ∨ s = 6 ∨ s = 7 := by omega
  rcases h with rfl | rfl | rfl | rfl | rfl | rfl | rfl
  · obtain ⟨q, hq, a, b⟩ := hT 0 (by omega); exact ⟨q, tz_at 1 0 q w rfl rfl (by omega) hq a b⟩
  · obtain ⟨q, hq, a, b⟩ := hT 1 (by omega); exact ⟨q, tz_at 2 1 q w rfl rfl (by omega) hq a b⟩
  · obtain ⟨q, hq, a, b⟩ := hT 0 (by omega); exact ⟨q, tz_at 3 0 q w rfl rfl (by omega) hq a b⟩
  · obtain ⟨q, hq, a, b⟩ := hT 3 (by omega); exact ⟨q, tz_at 4 3 q w rfl rfl (by omega) hq a b⟩
  · obtain ⟨q, hq, a, b⟩ := hT 0 (by omega); exact ⟨q, tz_at 5 0 q w rfl rfl (by omega) hq a b⟩
  · obtain ⟨q, hq, a, b⟩ := hT 1 (by omega); exact ⟨q, tz_at 6 1 q w rfl rfl (by omega) hq a b⟩
  · obtain ⟨q, hq, a, b⟩ := hT 0 (by omega); exact ⟨q, tz_at 7 0 q w rfl rfl (by omega) hq a b⟩

end Go.Proofs.YtlmkiekdkonofaaDoor
