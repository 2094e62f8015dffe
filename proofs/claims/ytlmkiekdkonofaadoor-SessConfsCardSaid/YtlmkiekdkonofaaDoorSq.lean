/-
  Late, Waits; the Tick at which a session gives up.
-/
import Derived.Test.YtlmkiekdkonofaaDoorSn
namespace Go.Proofs.YtlmkiekdkonofaaDoor
open Go.RowKit Go.Conc

set_option maxHeartbeats 400000 in
theorem late_any (b c : Nat) (s : St) (rq : Array Value) (w : World) (hs : SB w b c s rq) (hz : rq.size = 37) :
    Calls Tryd.prog 42 #[.pointer (some ⟨b, 0, none⟩)] w fun e w' => e = .returned (.bool s.lt) ∧ w = w' := by
  obtain ⟨_, _, _, _, _, _, _, _, k45, _, _, k48⟩ := hs.cells hz
  go_enter Tryd.func42, Tryd.ntmps42
  go_wp2_with (first | (go_at_call 34; refine (sess_none b c _ k48).mono ?_; rintro e w' ⟨rfl, rfl⟩))
  go_ret
  exact ⟨rfl, rfl⟩

set_option maxHeartbeats 400000 in
theorem waits_any (b c : Nat) (s : St) (rq : Array Value) (w : World) (hs : SB w b c s rq) (hz : rq.size = 37) :
    Calls Tryd.prog 43 #[.pointer (some ⟨b, 0, none⟩)] w fun e w' => e = .returned (.bool s.wt) ∧ w = w' := by
  obtain ⟨_, _, _, _, _, _, _, k44, _, _, _, k48⟩ := hs.cells hz
  go_enter Tryd.func43, Tryd.ntmps43
  go_wp2_with (first | (go_at_call 34; refine (sess_none b c _ k48).mono ?_; rintro e w' ⟨rfl, rfl⟩))
  go_ret
  exact ⟨rfl, rfl⟩

set_option maxHeartbeats 1000000 in
set_option maxRecDepth 100000 in
theorem tick_late (b c : Nat) (s : St) (rq : Array Value) (w : World) (hs : SB w b c s rq) (hz : rq.size = 37) (hwt : s.wt = true) (ht0 : 0 ≤ s.tk) (ht1 : s.mo < s.tk + 1) (hm : s.tk ≤ 100000) :
    Calls Tryd.prog 17 #[.pointer (some ⟨b, 0, none⟩)] w fun e w' => e = .returned (.slice none 0 0) ∧ SB w' b c { s with tk := s.tk + 1, wt := false, lt := true } rq ∧ Only [b] w w' := by
  obtain ⟨k0, k1, k2, k3, k4, k5, k6, k44, k45, k46, k47, k48⟩ := hs.cells hz
  rw [hwt] at k44
  have f46 := hs.free 46
  go_enter Tryd.func17, Tryd.ntmps17
  go_wp2_with (first | (go_at_call 34; refine (sess_none b c _ k48).mono ?_; rintro e w' ⟨rfl, rfl⟩))
  obtain ⟨V, hV⟩ : ∃ V, V = w.setCell ⟨b, 46, none⟩ (.int .i64 (s.tk + 1)) := ⟨_, rfl⟩
  rw [← hV]
  have hSV : SB V b c { s with tk := s.tk + 1 } rq := by rw [hV]; exact hs.put (sv_tk hz _)
  have hoV : Only [b] w V := by rw [hV]; exact (Only.refl [b] w).setCell _ _ _ (.inl (by simp))
  clear hV k0 k1 k2 k3 k4 k5 k6 k44 k45 k46 k47 k48 f46
  obtain ⟨k0, k1, k2, k3, k4, k5, k6, k44, k45, k46, k47, k48⟩ := hSV.cells hz
  simp only at k0 k1 k2 k3 k4 k5 k6 k44 k45 k46 k47
  rw [hwt] at k44
  have hd1 : decide (s.mo < s.tk + 1) = true := by simpa using ht1
  go_quiet (fail)
  obtain ⟨V1, hV1⟩ : ∃ V1, V1 = V.drewN nq := ⟨_, rfl⟩
  rw [← hV1]
  have hS1 : SB V1 b c { s with tk := s.tk + 1 } rq := by rw [hV1]; exact hSV
  have ho1 : Only [b] w V1 := by rw [hV1]; exact hoV.drewN nq
  clear hV1 k0 k1 k2 k3 k4 k5 k6 k44 k45 k46 k47 k48 hSV hoV nq
  obtain ⟨k0, k1, k2, k3, k4, k5, k6, k44, k45, k46, k47, k48⟩ := hS1.cells hz
  simp only at k0 k1 k2 k3 k4 k5 k6 k44 k45 k46 k47
  have f44 := hS1.free 44
  have f45 := hS1.free 45
  go_wp2_with fail
  go_ret
  exact ⟨rfl, (hS1.put (sv_wt hz _)).put (sv_lt hz _), (ho1.setCell _ _ _ (.inl (by simp))).setCell _ _ _ (.inl (by simp))⟩

end Go.Proofs.YtlmkiekdkonofaaDoor
