/-
  Tick that sends nothing.
-/
import Derived.Test.YtlmkiekdkonofaaDoorSj
import Derived.Conc.LoneSelectN
namespace Go.Proofs.YtlmkiekdkonofaaDoor
open Go.RowKit Go.Conc

/-- Behind such a Tick one tick more has passed; what lies in the channel is named. -/
def Ticked (b c : Nat) (s : St) (rq : Array Value) (buf : Array Value) (w : World) (w' : World) : Prop := SB w' b c { s with tk := s.tk + 1 } rq ∧ Ch w' c buf ∧ Only [b, c] w w'

set_option maxHeartbeats 1000000 in
set_option maxRecDepth 100000 in
theorem tick0 (b c : Nat) (s : St) (rq : Array Value) (x y : Int) (w : World) (hs : SB w b c s rq) (hz : rq.size = 37) (hi : Ints w s.ch [x, y]) (hc : Ch w c #[]) (hbc : b ≠ c) (hwt : s.wt = true)
    (ht0 : 0 ≤ s.tk) (ht1 : s.tk + 1 ≤ s.mo) (hm : s.mo ≤ 100000) (hl : 0 < s.li) (hl1 : s.li ≤ 1000) (hrem : (s.tk + 1) % s.li ≠ 0) :
    Calls Tryd.prog 17 #[.pointer (some ⟨b, 0, none⟩)] w fun e w' => e = .returned (.slice none 0 0) ∧ Ticked b c s rq #[] w w' := by
  obtain ⟨k0, k1, k2, k3, k4, k5, k6, k44, k45, k46, k47, k48⟩ := hs.cells hz
  rw [hwt] at k44
  obtain ⟨g, q, hv, _, _⟩ := hi.cell
  have hv' : s.ch = .slice (some ⟨g, 0, none⟩) 2 q := hv
  rw [hv'] at k6
  have f46 := hs.free 46
  go_enter Tryd.func17, Tryd.ntmps17
  go_wp2_with (first | (go_at_call 34; refine (sess_none b c _ k48).mono ?_; rintro e w' ⟨rfl, rfl⟩))
  obtain ⟨V, hV⟩ : ∃ V, V = w.setCell ⟨b, 46, none⟩ (.int .i64 (s.tk + 1)) := ⟨_, rfl⟩
  rw [← hV]
  have hSV : SB V b c { s with tk := s.tk + 1 } rq := by rw [hV]; exact hs.put (sv_tk hz _)
  have hoV : Only [b] w V := by rw [hV]; exact (Only.refl [b] w).setCell _ _ _ (.inl (by simp))
  have hCV : Ch V c #[] := hc.keep hoV (by simpa using fun e : c = b => hbc e.symm)
  clear hV k0 k1 k2 k3 k4 k5 k6 k44 k45 k46 k47 k48 f46
  obtain ⟨k0, k1, k2, k3, k4, k5, k6, k44, k45, k46, k47, k48⟩ := hSV.cells hz
  simp only at k0 k1 k2 k3 k4 k5 k6 k44 k45 k46 k47
  rw [hwt] at k44
  rw [hv'] at k6
  have hd1 : decide (s.mo < s.tk + 1) = false := by simpa using ht1
  go_quiet (fail)
  obtain ⟨V1, hV1⟩ : ∃ V1, V1 = V.drewN nq := ⟨_, rfl⟩
  rw [← hV1]
  have hS1 : SB V1 b c { s with tk := s.tk + 1 } rq := by rw [hV1]; exact hSV
  have hC1 : Ch V1 c #[] := by rw [hV1]; exact hCV
  have ho1 : Only [b, c] w V1 := by rw [hV1]; exact (hoV.mono (by simp)).drewN nq
  clear hV1 k0 k1 k2 k3 k4 k5 k6 k44 k45 k46 k47 k48 hSV hCV hoV nq
  obtain ⟨k0, k1, k2, k3, k4, k5, k6, k44, k45, k46, k47, k48⟩ := hS1.cells hz
  simp only at k0 k1 k2 k3 k4 k5 k6 k44 k45 k46 k47
  rw [hwt] at k44
  rw [hv'] at k6
  have hl2 : s.li ≠ 0 := by omega
  have hd2 : ((s.tk + 1) % s.li == 0) = false := by simpa using hrem
  go_wp2_with fail
  go_quiet (fail)
  obtain ⟨V2, hV2⟩ : ∃ V2, V2 = V1.drewN nq := ⟨_, rfl⟩
  rw [← hV2]
  have hS2 : SB V2 b c { s with tk := s.tk + 1 } rq := by rw [hV2]; exact hS1
  have hC2 : Ch V2 c #[] := by rw [hV2]; exact hC1
  have ho2 : Only [b, c] w V2 := by rw [hV2]; exact ho1.drewN nq
  clear hV2 k0 k1 k2 k3 k4 k5 k6 k44 k45 k46 k47 k48 hS1 hC1 ho1 nq
  obtain ⟨k0, k1, k2, k3, k4, k5, k6, k44, k45, k46, k47, k48⟩ := hS2.cells hz
  simp only at k0 k1 k2 k3 k4 k5 k6 k44 k45 k46 k47
  rw [hwt] at k44
  rw [hv'] at k6
  repeat (first | with_reducible refine wp_recv0 (id := 11) (x := .tmp 60) ?_ ?_ ?_ zero58 hC2 (fun K hK => ?_) | go_values | go_skip | go_guarded | go_step | go_upon)
  · rfl
  · rfl
  · rfl
  go_simp
  refine hK _ _ ?_
  clear hK K
  obtain ⟨sn, rn, hblk⟩ := hC2
  have hlen := fun ty => run_len_chan (P := Tryd.prog) 92 ty Tryd.underlying92 hblk
  go_wp2_with fail
  go_ret
  exact ⟨rfl, hS2, ⟨sn, rn, hblk⟩, ho2⟩

end Go.Proofs.YtlmkiekdkonofaaDoor
