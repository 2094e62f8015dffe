/-
  asks, begun.
-/
import Derived.Test.YtlmkiekdkonofaaDoorSf
import Derived.Test.YtlmkiekdkonofaaDoorSg
import Derived.Test.YtlmkiekdkonofaaDoorKe
namespace Go.Proofs.YtlmkiekdkonofaaDoor
open Go.RowKit Go.Conc

attribute [local go_sem ↓] pre58
attribute [local go_sem] load58
set_option maxHeartbeats 1000000 in
theorem asks_by (b : Nat) (rq : Array Value) (n k : Int) (w : World) (R : World → Prop) (hsz : rq.size = 37)
    (hask : ∀ W, Only [] w W → Calls Tryd.prog 50 #[.pointer (some ⟨b, 0, none⟩), .agg rq] W fun e w' => e = .returned (.tuple #[.int .i64 n, .int .i64 k]) ∧ R w') :
    Calls Tryd.prog 32 #[.pointer (some ⟨b, 0, none⟩), .agg rq, .int .i64 n, .int .i64 k] w fun e w' => e = .returned (.bool true) ∧ R w' := by
  go_enter Tryd.func32, Tryd.ntmps32
  have hh := Lib.hid hask
  clear hask
  have hb := heap_alloc_new w (.cells rq 58)
  have hr := req_at (w := w.alloc (.cells rq 58)) (b := w.heap.size) (o := 0) hsz (fun j v hv => by rw [cell_blk hb, Nat.zero_add]; simpa using hv)
  obtain ⟨hr1, hr2⟩ := hr
  go_wp2_with fail
  refine (hh.out _ ((Only.refl [] w).alloc _)).mono ?_
  rintro e w1 ⟨rfl, hR⟩
  have hRh := Lib.hid hR
  clear hR
  go_wp2_with fail
  go_ret
  exact ⟨rfl, hRh.out⟩

/-- Behind begun a session of client 2 waits for its first answer. -/
def Begun (li mo : Int) (w : World) (e : Ending) (w' : World) : Prop :=
  ∃ b c rq, e = .returned (.tuple #[.pointer (some ⟨b, 0, none⟩), .bool true]) ∧ Rq rq 2 1 ∧ SB w' b c { st0 2 1 li mo with nx := 2, wt := true, nm := 1 } rq ∧ Ch w' c #[.agg rq] ∧ w.heap.size ≤ b ∧ w.heap.size ≤ c ∧ b ≠ c ∧ Only [] w w'

set_option maxHeartbeats 1000000 in
theorem begun_any (li mo : Int) (w : World) (h4 : 1 ≤ li) (h5 : li ≤ 1000) (h6 : 1 ≤ mo) (h7 : mo ≤ 100000) :
    Calls Tryd.prog 12 #[.int .i64 li, .int .i64 mo] w (Begun li mo w) := by
  go_enter Tryd.func12, Tryd.ntmps12
  go_wp2_with fail
  refine (sess_new 2 1 li mo w (by omega) (by omega) (by omega) (by omega) h4 h5 h6 h7).mono ?_
  rintro e w1 ⟨b, c, rq0, rfl, hs, hz, hc, hb1, hc1, hbc, ho⟩
  go_wp2_with fail
  refine (get_any 7 w1).mono ?_
  rintro e w2 ⟨⟨rq, rfl, hR⟩, ho2⟩
  have hs2 := hs.keep ho2 (by simp)
  have hc2 := hc.keep ho2 (by simp)
  go_wp2_with fail
  refine (asks_by b rq 1 0 w2 (fun w' => ∃ rq, Rq rq 2 1 ∧ SB w' b c { st0 2 1 li mo with nx := 2, wt := true, nm := 1 } rq ∧ Ch w' c #[.agg rq] ∧ Only [b, c] w2 w') hR.size (fun W hW => ?_)).mono ?_
  · refine (ask_any b c (st0 2 1 li mo) rq0 rq W (hs2.keep hW (by simp)) hz (hc2.keep hW (by simp)) hbc hR rfl (by show (0 : Int) ≤ 2; decide) (by show (2 : Int) < 3; decide) (by show (1 : Int) ≤ 1; decide) (by show (1 : Int) ≤ 100; decide)).mono ?_
    rintro e w' ⟨rq', rfl, hR', hS', hC', hO'⟩
    exact ⟨rfl, rq', hR', hS', hC', (hW.mono (by simp)).trans hO' (by simp)⟩
  rintro e w3 ⟨rfl, rq', hR', hS', hC', hO'⟩
  go_wp2_with fail
  go_ret2
  have hO : Only [b, c] w w3 := ((ho.trans ho2 (by simp)).mono (by simp)).trans hO' (by simp)
  exact ⟨b, c, rq', rfl, hR', hS', hC', hb1, hc1, hbc, hO.fresh (by simp [hb1, hc1])⟩
end Go.Proofs.YtlmkiekdkonofaaDoor
