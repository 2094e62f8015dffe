/-
  THE SESSION's SMALL FUNCTIONS: none, Bring at 30 and 4, clear (something waits; nothing waits), own's Clone.
-/
import Derived.Test.YtlmkiekdkonofaaDoorLa
import Derived.Test.YtlmkiekdkonofaaDoorSa
namespace Go.Proofs.YtlmkiekdkonofaaDoor
open Go.RowKit Go.Conc

set_option maxHeartbeats 400000 in
theorem sess_none (b c : Nat) (W : World) (h : W.cell? ⟨b, 48, none⟩ = some (.chan (some c))) :
    Calls Tryd.prog 34 #[.pointer (some ⟨b, 0, none⟩)] W fun e w' => e = .returned (.bool false) ∧ W = w' := by
  have hq := fun w => eqlChan w c
  go_enter Tryd.func34, Tryd.ntmps34
  go_wp2_with fail
  go_ret
  exact ⟨rfl, rfl⟩

theorem tmodN (n : Int) (hn : 0 < n) (a : Int) : (a.tmod n < 0 → a.tmod n + n = a % n ∧ -n < a.tmod n) ∧ (0 ≤ a.tmod n → a.tmod n = a % n) := by
  rcases Int.le_total 0 a with h | h
  · rw [Int.tmod_eq_emod_of_nonneg h]
    have := Int.emod_nonneg a (by omega : n ≠ 0)
    exact ⟨fun h => by omega, fun _ => rfl⟩
  · have h2 : a.tmod n = -((-a) % n) := by rw [← Int.tmod_eq_emod_of_nonneg (by omega : 0 ≤ -a), Int.neg_tmod, Int.neg_neg]
    have := Int.emod_nonneg (-a) (by omega : n ≠ 0)
    have := Int.emod_lt_of_pos (-a) hn
    have h5 := Int.emod_nonneg a (by omega : n ≠ 0)
    have h6 := Int.emod_lt_of_pos a hn
    have h7 := Int.emod_add_mul_ediv a n
    have h8 := Int.emod_add_mul_ediv (-a) n
    have h9 : a % n + -a % n = n * (-(a / n) - (-a / n)) := by rw [Int.mul_sub, Int.mul_neg]; omega
    generalize hq : -(a / n) - (-a / n) = q at h9
    have hq1 : q = 0 ∨ q = 1 := by
      rcases Int.lt_or_le q 0 with h' | h'
      · have := Int.mul_lt_mul_of_pos_left h' hn; omega
      · rcases Int.lt_or_le q 2 with h'' | h''
        · omega
        · have := Int.mul_le_mul_of_nonneg_left h'' (Int.le_of_lt hn); omega
    rcases hq1 with rfl | rfl <;> omega

set_option maxHeartbeats 400000 in
theorem bringN (n : Int) (hn : n = 30 ∨ n = 4) (a : Int) (w : World) :
    Calls Tryd.prog 7 #[.int .i64 a, .int .i64 n] w fun e w' => e = .returned (.int .i64 (a % n)) ∧ w = w' := by
  have h3 := Lib.hid (tmodN n (by omega) a)
  rcases hn with rfl | rfl
  all_goals
    go_enter Tryd.func7, Tryd.ntmps7
    go_wp2
    · first | (have h : a.tmod 30 < 0 := by assumption) | (have h : a.tmod 4 < 0 := by assumption)
      go_ret
      exact ⟨ret_int (by have := h3.out.1 h; unfold wrap64; omega), rfl⟩
    · first | (have h : 0 ≤ a.tmod 30 := by assumption) | (have h : 0 ≤ a.tmod 4 := by assumption)
      go_ret
      exact ⟨ret_int (h3.out.2 h), rfl⟩

set_option maxHeartbeats 400000 in
theorem clear1 (b c : Nat) (v : Value) (W : World) (h : W.cell? ⟨b, 48, none⟩ = some (.chan (some c))) (hc : Ch W c #[v]) :
    Calls Tryd.prog 54 #[.pointer (some ⟨b, 0, none⟩)] W fun e w' => e = .returned (.tuple #[]) ∧ Ch w' c #[] ∧ Only [c] W w' := by
  go_enter Tryd.func54, Tryd.ntmps54
  repeat (first | with_reducible refine wp_recv1 (id := 1) (x := .tmp 5) ?_ ?_ ?_ zero58 hc (fun w2 h1 h2 h3 K hK => ?_) | go_values | go_skip | go_guarded | go_step | go_upon)
  · rfl
  · rfl
  · rfl
  go_simp
  refine hK _ _ ?_
  clear hK K
  go_wp2_with fail
  exact bodyPost_end (v := .tuple #[]) (by simp [results, Tryd.f54, go_sem]) rfl ⟨rfl, h1, h2⟩

set_option maxHeartbeats 400000 in
theorem clear0 (b c : Nat) (W : World) (h : W.cell? ⟨b, 48, none⟩ = some (.chan (some c))) (hc : Ch W c #[]) :
    Calls Tryd.prog 54 #[.pointer (some ⟨b, 0, none⟩)] W fun e w' => e = .returned (.tuple #[]) ∧ Ch w' c #[] ∧ Only [c] W w' := by
  go_enter Tryd.func54, Tryd.ntmps54
  repeat (first | with_reducible refine wp_recv0 (id := 1) (x := .tmp 5) ?_ ?_ ?_ zero58 hc (fun K hK => ?_) | go_values | go_skip | go_guarded | go_step | go_upon)
  · rfl
  · rfl
  · rfl
  go_simp
  refine hK _ _ ?_
  clear hK K
  go_wp2_with fail
  exact bodyPost_end (v := .tuple #[]) (by simp [results, Tryd.f54, go_sem]) rfl ⟨rfl, hc, Only.refl _ _⟩

set_option maxHeartbeats 400000 in
theorem clone_bytes (w : World) : Calls Tryd.prog 39 #[.slice none 0 0] w fun e w' => e = .returned (.slice none 0 0) ∧ w = w' := by
  have hq := fun w => Lib.run_eql_slice_nil (P := Tryd.prog) w 52 _ none 0 0 0 0 Tryd.underlying52
  go_enter Tryd.func39, Tryd.ntmps39
  go_wp2_with fail
  go_ret
  exact ⟨rfl, rfl⟩

set_option maxHeartbeats 400000 in
theorem node_any (b : Nat) (cl : Int) (W : World) (h : W.cell? ⟨b, 0, none⟩ = some (.int .i64 cl)) (h0 : 0 ≤ cl) (h1 : cl ≤ 2) :
    Calls Tryd.prog 35 #[.pointer (some ⟨b, 0, none⟩)] W fun e w' => e = .returned (.int .i64 (20 + cl)) ∧ W = w' := by
  go_enter Tryd.func35, Tryd.ntmps35
  go_wp2_with fail
  go_ret
  exact ⟨rfl, rfl⟩
end Go.Proofs.YtlmkiekdkonofaaDoor
