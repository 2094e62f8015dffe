/-
  A new session; asks; begun.
-/
import Derived.Test.YtlmkiekdkonofaaDoorSe
import Derived.Conc.SmallLaws
namespace Go.Proofs.YtlmkiekdkonofaaDoor
open Go.RowKit Go.Conc

set_option maxHeartbeats 400000 in
theorem within_any (n a m : Int) (w : World) (h0 : a ≤ n) (h1 : n ≤ m) : Calls Tryd.prog 49 #[.int .i64 n, .int .i64 a, .int .i64 m] w fun e w' => e = .returned (.bool true) ∧ w = w' := by
  go_enter Tryd.func49, Tryd.ntmps49
  go_wp2_with fail
  all_goals go_ret
  all_goals exact ⟨rfl, rfl⟩

def st0 (cl nx li mo : Int) : St := ⟨cl, nx, li, mo, 0, 0, .slice none 0 0, false, false, 0, 0⟩
def z37 : Array Value := #[Value.int IntKind.i64 0, Value.int IntKind.i64 0, Value.int IntKind.i64 0, Value.int IntKind.i64 0, Value.int IntKind.u8 0, Value.int IntKind.u8 0, Value.int IntKind.u8 0, Value.int IntKind.u8 0, Value.int IntKind.u8 0, Value.int IntKind.u8 0, Value.int IntKind.u8 0, Value.int IntKind.u8 0, Value.int IntKind.u8 0, Value.int IntKind.u8 0, Value.int IntKind.u8 0, Value.int IntKind.u8 0, Value.int IntKind.u8 0, Value.int IntKind.u8 0, Value.int IntKind.u8 0, Value.int IntKind.u8 0, Value.int IntKind.u8 0, Value.int IntKind.u8 0, Value.int IntKind.u8 0, Value.int IntKind.u8 0, Value.int IntKind.u8 0, Value.int IntKind.u8 0, Value.int IntKind.u8 0, Value.int IntKind.u8 0, Value.int IntKind.u8 0, Value.int IntKind.u8 0, Value.int IntKind.u8 0, Value.int IntKind.u8 0, Value.int IntKind.u8 0, Value.int IntKind.u8 0, Value.int IntKind.u8 0, Value.int IntKind.u8 0, Value.slice none 0 0]
theorem sv0 (cl nx li mo : Int) (c : Nat) : sv (st0 cl nx li mo) z37 c = #[Value.int IntKind.i64 cl, Value.int IntKind.i64 nx, Value.int IntKind.i64 li, Value.int IntKind.i64 mo, Value.int IntKind.i64 0, Value.int IntKind.i64 0, Value.slice none 0 0, Value.int IntKind.i64 0, Value.int IntKind.i64 0, Value.int IntKind.i64 0, Value.int IntKind.i64 0, Value.int IntKind.u8 0, Value.int IntKind.u8 0, Value.int IntKind.u8 0, Value.int IntKind.u8 0, Value.int IntKind.u8 0, Value.int IntKind.u8 0, Value.int IntKind.u8 0, Value.int IntKind.u8 0, Value.int IntKind.u8 0, Value.int IntKind.u8 0, Value.int IntKind.u8 0, Value.int IntKind.u8 0, Value.int IntKind.u8 0, Value.int IntKind.u8 0, Value.int IntKind.u8 0, Value.int IntKind.u8 0, Value.int IntKind.u8 0, Value.int IntKind.u8 0, Value.int IntKind.u8 0, Value.int IntKind.u8 0, Value.int IntKind.u8 0, Value.int IntKind.u8 0, Value.int IntKind.u8 0, Value.int IntKind.u8 0, Value.int IntKind.u8 0, Value.int IntKind.u8 0, Value.int IntKind.u8 0, Value.int IntKind.u8 0, Value.int IntKind.u8 0, Value.int IntKind.u8 0, Value.int IntKind.u8 0, Value.int IntKind.u8 0, Value.slice none 0 0, Value.bool false, Value.bool false, Value.int IntKind.i64 0, Value.int IntKind.i64 0, Value.chan (some c)] := by kernel_rfl
def New20 (cl nx li mo : Int) (w : World) (e : Ending) (w' : World) : Prop :=
  ∃ b c rq, e = .returned (.tuple #[.pointer (some ⟨b, 0, none⟩), .int .i64 0]) ∧ SB w' b c (st0 cl nx li mo) rq ∧ rq.size = 37 ∧ Ch w' c #[] ∧ w.heap.size ≤ b ∧ w.heap.size ≤ c ∧ b ≠ c ∧ Only [] w w'

set_option maxHeartbeats 1000000 in
set_option maxRecDepth 100000 in
theorem sess_new (cl nx li mo : Int) (w : World) (h0 : 0 ≤ cl) (h1 : cl ≤ 2) (h2 : 1 ≤ nx) (h3 : nx ≤ 100) (h4 : 1 ≤ li) (h5 : li ≤ 1000) (h6 : 1 ≤ mo) (h7 : mo ≤ 100000) :
    Calls Tryd.prog 31 #[.int .i64 cl, .int .i64 nx, .int .i64 li, .int .i64 mo] w (New20 cl nx li mo w) := by
  have hmk : ∀ w : World, (Instr.makeChan 92 (.int .i64 1)).run Tryd.prog w = .ok (.chan (some w.heap.size)) (w.alloc (.chan 1 #[] false 0 0 false)) := fun w => by
    obtain ⟨i, hi, hb⟩ : ∃ i, Tryd.prog.info? 58 = some i ∧ i.bytes = 88 := by
      have : (Tryd.prog.info? 58).map (·.bytes) = some 88 := by kernel_rfl
      cases hq : Tryd.prog.info? 58 with
      | none => rw [hq] at this; cases this
      | some i => rw [hq] at this; exact ⟨i, rfl, by simpa using this⟩
    exact run_makeChan Tryd.underlying92 hi .i64 1 (by decide) (by rw [hb]; decide)
  go_enter Tryd.func31, Tryd.ntmps31
  go_wp2_with (first | (go_at_call 49; refine (within_any _ _ _ _ (by omega) (by omega)).mono ?_; rintro e w' ⟨rfl, rfl⟩))
  go_ret2
  refine ⟨w.heap.size + 1, w.heap.size, z37, rfl, ?_, rfl, ⟨0, 0, (new_two w _ _).1⟩, by omega, Nat.le_refl _, by omega, ((Only.refl [] w).alloc _).alloc _⟩
  unfold SB
  rw [sv0]
  exact (new_two w _ _).2
end Go.Proofs.YtlmkiekdkonofaaDoor
