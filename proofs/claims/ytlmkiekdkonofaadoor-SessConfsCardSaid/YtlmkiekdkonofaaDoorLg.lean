/-
  No and Yes of a leader.
-/
import Derived.Test.YtlmkiekdkonofaaDoorLe
import Derived.Deep.QuietTactic
import Derived.BigQuiet
namespace Go.Proofs.YtlmkiekdkonofaaDoor
open Go.RowKit Go.ChangeMaps
attribute [local go_sem] alloc_drewN setCell_drewN

theorem orB_lt (s k : Nat) (h0 : s < 8) (h1 : k < 3) : orB s k < 8 := by
  have h : s = 0 ∨ s = 1 ∨ s = 2 ∨ s = 3 ∨ s = 4 ∨ s = 5 ∨ s = 6 ∨ s = 7 := by omega
  have h' : k = 0 ∨ k = 1 ∨ k = 2 := by omega
  rcases h' with rfl | rfl | rfl <;> rcases h with rfl | rfl | rfl | rfl | rfl | rfl | rfl | rfl <;> decide

set_option maxHeartbeats 1000000 in
set_option maxRecDepth 100000 in
theorem no_not (L : Nat) (id bal frm ph b : Int) (pm sd : Nat) (mp : Option Nat) (pd : Option Addr) (w : World) (hL : LB w L id bal frm ph pm mp pd sd) (h : b ≤ bal) :
    Calls Tryd.prog 26 #[.pointer (some ⟨L, 0, none⟩), .int .i64 b] w fun e w' => e = .returned (.int .i64 170) ∧ w = w' := by
  obtain ⟨hlt, hfz, c0, c1, c2, c3, c4, c5, c6, c7, c8⟩ := hL.facts
  have HN := Lib.hid (none_any L w c8)
  clear hL
  by_cases hp : ph = 0
  · subst hp
    go_enter Tryd.func26, Tryd.ntmps26
    go_wp2_with (go_at_call 27; refine HN.out.mono ?_; rintro e w1 ⟨rfl, rfl⟩)
    go_ret
    exact ⟨rfl, rfl⟩
  · have hp' : (ph == 0) = false := by simpa using hp
    clear hp
    go_enter Tryd.func26, Tryd.ntmps26
    go_wp2_with (go_at_call 27; refine HN.out.mono ?_; rintro e w1 ⟨rfl, rfl⟩)
    go_ret
    exact ⟨rfl, rfl⟩

set_option maxHeartbeats 1000000 in
set_option maxRecDepth 100000 in
theorem no_yes (L : Nat) (id bal frm ph b : Int) (pm sd : Nat) (mp : Option Nat) (pd : Option Addr) (w : World) (hL : LB w L id bal frm ph pm mp pd sd) (h : bal < b) (hp : (ph == 0) = false) :
    Calls Tryd.prog 26 #[.pointer (some ⟨L, 0, none⟩), .int .i64 b] w fun e w' => e = .returned (.int .i64 0) ∧ LB w' L id bal frm 0 pm mp none sd ∧ Only [L] w w' := by
  obtain ⟨hlt, hfz, c0, c1, c2, c3, c4, c5, c6, c7, c8⟩ := hL.facts
  have HN := Lib.hid (none_any L w c8)
  have HL := Lib.hid hL
  clear hL
  go_enter Tryd.func26, Tryd.ntmps26
  go_wp2_with (go_at_call 27; refine HN.out.mono ?_; rintro e w1 ⟨rfl, rfl⟩)
  go_ret
  refine ⟨rfl, ?_, ?_⟩
  · have h1 := HL.out
    unfold LB at h1 ⊢
    simp [hp_set, h1, setc]
  · repeat' (first | with_reducible assumption | with_reducible refine Only.alloc ?_ _ | with_reducible refine Only.drew ?_ | with_reducible refine Only.drewN ?_ _ | with_reducible refine Only.setCell ?_ _ _ _ (by simp) | with_reducible exact Only.refl _ _)

set_option maxHeartbeats 1000000 in
set_option maxRecDepth 100000 in
theorem yes_few (L Pb k : Nat) (id bal frm n : Int) (pm sd : Nat) (mp : Option Nat) (w : World) (hL : LB w L id bal frm 2 pm mp (some ⟨Pb, 0, none⟩) sd) (hP : w.cell? ⟨Pb, 0, none⟩ = some (.int .i64 n)) (hk : k < 3) (hsd : sd < 8) (hc : cnt (orB sd k) < 2) :
    Calls Tryd.prog 24 #[.pointer (some ⟨L, 0, none⟩), .int .i64 k, .int .i64 bal, .int .i64 n] w fun e w' => e = .returned (.tuple #[.bool false, .int .i64 0]) ∧ LB w' L id bal frm 2 pm mp (some ⟨Pb, 0, none⟩) (orB sd k) ∧ Only [L] w w' := by
  obtain ⟨hlt, hfz, c0, c1, c2, c3, c4, c5, c6, c7, c8⟩ := hL.facts
  have HM := Lib.hid (master_any L k w c8 (by omega) (by omega))
  have HW := Lib.hid (with_any sd k w hsd hk)
  have HC := Lib.hid (many_any (orB sd k) (w.setCell ⟨L, 7, none⟩ (.int .u64 (orB sd k : Nat))) (orB_lt sd k hsd hk))
  have HL := Lib.hid hL
  have c9 : (cnt (orB sd k) : Int) < 2 := by omega
  clear hL hc
  go_enter Tryd.func24, Tryd.ntmps24
  go_wp2_with (first | (go_at_call 44; refine HM.out.mono ?_; rintro e w1 ⟨rfl, rfl⟩) | (go_at_call 45; refine HW.out.mono ?_; rintro e w1 ⟨rfl, rfl⟩) | (go_at_call 48; refine HC.out.mono ?_; rintro e w1 ⟨rfl, rfl⟩))
  go_ret2
  refine ⟨rfl, ?_, ?_⟩
  · have h1 := HL.out
    unfold LB at h1 ⊢
    simp [hp_set, h1, setc]
  · repeat' (first | with_reducible assumption | with_reducible refine Only.alloc ?_ _ | with_reducible refine Only.drew ?_ | with_reducible refine Only.drewN ?_ _ | with_reducible refine Only.setCell ?_ _ _ _ (by simp) | with_reducible exact Only.refl _ _)

set_option maxHeartbeats 1000000 in
set_option maxRecDepth 100000 in
theorem yes_many (L Pb k : Nat) (id bal frm n : Int) (pm sd : Nat) (mp : Option Nat) (w : World) (hL : LB w L id bal frm 2 pm mp (some ⟨Pb, 0, none⟩) sd) (hP : w.cell? ⟨Pb, 0, none⟩ = some (.int .i64 n)) (hk : k < 3) (hsd : sd < 8) (hc : 2 ≤ cnt (orB sd k)) (hn0 : 0 ≤ n) (hn1 : n ≤ 100) :
    Calls Tryd.prog 24 #[.pointer (some ⟨L, 0, none⟩), .int .i64 k, .int .i64 bal, .int .i64 n] w fun e w' => e = .returned (.tuple #[.bool true, .int .i64 0]) ∧ LB w' L id bal (n + 1) 2 pm mp none (orB sd k) ∧ Only [L] w w' := by
  obtain ⟨hlt, hfz, c0, c1, c2, c3, c4, c5, c6, c7, c8⟩ := hL.facts
  have HM := Lib.hid (master_any L k w c8 (by omega) (by omega))
  have HW := Lib.hid (with_any sd k w hsd hk)
  have HC := Lib.hid (many_any (orB sd k) (w.setCell ⟨L, 7, none⟩ (.int .u64 (orB sd k : Nat))) (orB_lt sd k hsd hk))
  have HL := Lib.hid hL
  have c9 : (2 : Int) ≤ (cnt (orB sd k) : Int) := by omega
  clear hL hc
  go_enter Tryd.func24, Tryd.ntmps24
  go_wp2_with (first | (go_at_call 44; refine HM.out.mono ?_; rintro e w1 ⟨rfl, rfl⟩) | (go_at_call 45; refine HW.out.mono ?_; rintro e w1 ⟨rfl, rfl⟩) | (go_at_call 48; refine HC.out.mono ?_; rintro e w1 ⟨rfl, rfl⟩))
  go_ret2
  refine ⟨rfl, ?_, ?_⟩
  · have h1 := HL.out
    unfold LB at h1 ⊢
    simp [hp_set, h1, setc]
  · repeat' (first | with_reducible assumption | with_reducible refine Only.alloc ?_ _ | with_reducible refine Only.drew ?_ | with_reducible refine Only.drewN ?_ _ | with_reducible refine Only.setCell ?_ _ _ _ (by simp) | with_reducible exact Only.refl _ _)
end Go.Proofs.YtlmkiekdkonofaaDoor
