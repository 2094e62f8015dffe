/-
  The Tick that asks the masters and sends the request once more.
-/
import Derived.Test.YtlmkiekdkonofaaDoorSr
namespace Go.Proofs.YtlmkiekdkonofaaDoor
open Go.RowKit Go.Conc

/-- The three masters are asked, and the head. -/
def Sent4 (b c : Nat) (s : St) (rq : Array Value) (x : Int) (w : World) (e : Ending) (w' : World) : Prop :=
  ∃ g cap, e = .returned (.slice (some ⟨g, 0, none⟩) 4 cap) ∧ Pk w' g 0 9 0 ∧ Pk w' g 1 9 1 ∧ Pk w' g 2 9 2 ∧ Pk w' g 3 1 x ∧ Ticked b c s rq #[] w w'

theorem own_keep {w w' : World} {B e z : Nat} {v : Value} {n : Nat} {xs : List Value} (h : w.ownsRow B e z v n xs) (ho : Only [] w w') : w'.ownsRow B e z v n xs := by
  obtain ⟨h1, h3⟩ := h
  rcases h3 with h3 | ⟨g, cap, cur, hv, hg, hh, r⟩
  · exact ⟨h1, .inl h3⟩
  · exact ⟨h1, .inr ⟨g, cap, cur, hv, hg, ho.get0 hh, r⟩⟩

attribute [local go_sem ↓] pre58
attribute [local go_sem] load58
set_option maxHeartbeats 1000000 in
set_option maxRecDepth 100000 in
theorem tick4 (b c : Nat) (s : St) (rq : Array Value) (num : Int) (x y : Int) (w : World) (hs : SB w b c s rq) (hR : Rq rq s.cl num) (h0 : 0 ≤ s.cl) (h2 : s.cl ≤ 2) (hi : Ints w s.ch [x, y]) (hc : Ch w c #[]) (hbc : b ≠ c) (hwt : s.wt = true)
    (ht0 : 0 ≤ s.tk) (ht1 : s.tk + 1 ≤ s.mo) (hm : s.mo ≤ 100000) (hl : 0 < s.li) (hl1 : s.li ≤ 1000) (hrem : (s.tk + 1) % s.li = 0) :
    Calls Tryd.prog 17 #[.pointer (some ⟨b, 0, none⟩)] w (Sent4 b c s rq x w) := by
  have hz := hR.size
  obtain ⟨k0, k1, k2, k3, k4, k5, k6, k44, k45, k46, k47, k48⟩ := hs.cells hz
  rw [hwt] at k44
  obtain ⟨g, q, hv, _, _⟩ := hi.cell
  have hv' : s.ch = .slice (some ⟨g, 0, none⟩) 2 q := hv
  rw [hv'] at k6
  have f46 := hs.free 46
  go_enter Tryd.func17, Tryd.ntmps17
  go_wp2_with (first | (go_at_call 34; refine (sess_none b c _ k48).mono ?_; rintro e w' ⟨rfl, rfl⟩))
  obtain ⟨V, hV⟩ : ∃ V, V = w.setCell ⟨b, 46, none⟩ (.int .i64 (s.tk + 1)) := ⟨_, rfl⟩
  rw [← hV]
  have hSV : SB V b c { s with tk := s.tk + 1 } rq := by rw [hV]; exact hs.put (sv_tk hz _)
  have hoV : Only [b] w V := by rw [hV]; exact (Only.refl [b] w).setCell _ _ _ (.inl (by simp))
  have hCV : Ch V c #[] := hc.keep hoV (by simpa using fun e : c = b => hbc e.symm)
  clear hV k0 k1 k2 k3 k4 k5 k6 k44 k45 k46 k47 k48 f46
  obtain ⟨k0, k1, k2, k3, k4, k5, k6, k44, k45, k46, k47, k48⟩ := hSV.cells hz
  simp only at k0 k1 k2 k3 k4 k5 k6 k44 k45 k46 k47
  rw [hwt] at k44
  rw [hv'] at k6
  have hd1 : decide (s.mo < s.tk + 1) = false := by simpa using ht1
  go_quiet (fail)
  obtain ⟨V1, hV1⟩ : ∃ V1, V1 = V.drewN nq := ⟨_, rfl⟩
  rw [← hV1]
  have hS1 : SB V1 b c { s with tk := s.tk + 1 } rq := by rw [hV1]; exact hSV
  have hC1 : Ch V1 c #[] := by rw [hV1]; exact hCV
  have ho1 : Only [b, c] w V1 := by rw [hV1]; exact (hoV.mono (by simp)).drewN nq
  clear hV1 k0 k1 k2 k3 k4 k5 k6 k44 k45 k46 k47 k48 hSV hCV hoV nq
  obtain ⟨k0, k1, k2, k3, k4, k5, k6, k44, k45, k46, k47, k48⟩ := hS1.cells hz
  simp only at k0 k1 k2 k3 k4 k5 k6 k44 k45 k46 k47
  rw [hwt] at k44
  rw [hv'] at k6
  have hl2 : s.li ≠ 0 := by omega
  have hd2 : ((s.tk + 1) % s.li == 0) = true := by simpa using hrem
  go_wp2_with fail
  go_quiet (fail)
  obtain ⟨V2, hV2⟩ : ∃ V2, V2 = V1.drewN nq := ⟨_, rfl⟩
  rw [← hV2]
  have hS2 : SB V2 b c { s with tk := s.tk + 1 } rq := by rw [hV2]; exact hS1
  have hC2 : Ch V2 c #[] := by rw [hV2]; exact hC1
  have ho2 : Only [b, c] w V2 := by rw [hV2]; exact ho1.drewN nq
  clear hV2 k0 k1 k2 k3 k4 k5 k6 k44 k45 k46 k47 k48 hS1 hC1 ho1 nq
  obtain ⟨k0, k1, k2, k3, k4, k5, k6, k44, k45, k46, k47, k48⟩ := hS2.cells hz
  simp only at k0 k1 k2 k3 k4 k5 k6 k44 k45 k46 k47
  rw [hwt] at k44
  rw [hv'] at k6
  repeat (first | with_reducible refine wp_recv0 (id := 11) (x := .tmp 60) ?_ ?_ ?_ zero58 hC2 (fun K hK => ?_) | go_values | go_skip | go_guarded | go_step | go_upon)
  · rfl
  · rfl
  · rfl
  go_simp
  refine hK _ _ ?_
  clear hK K
  have hC := Lib.hid hC2
  obtain ⟨sn, rn, hblk⟩ := hC2
  have hlen := fun ty => run_len_chan (P := Tryd.prog) 92 ty Tryd.underlying92 hblk
  go_wp2_with fail
  refine wp_loop_rounds 4 ?_
  rw [rounds_succ]
  go_wp2_with (first | (go_at_call 35; refine (node_any b s.cl _ k0 h0 h2).mono ?_; rintro e w' ⟨rfl, rfl⟩) | (with_reducible refine halt_bs ?_))
  unfold Halted
  refine wp_push (pk := mstPk (20 + s.cl) 0) (B := V2.heap.size) (mst_facts _ _).1 (mst_facts _ _).2.2.2 (pkrow_nil V2 V2.heap.size) (by decide) (Nat.le_refl _) rfl (fun _ => rfl) (fun _ => rfl) (fun g1 cap1 w1 u1 hown1 hO1 hB1 K hK => ?_)
  go_simp
  refine hK _ _ ?_
  clear hK K
  have o1 : Only [] V2 w1 := hO1 V2 (Nat.le_refl _) (Only.refl [] V2)
  have S1 := hS2.keep o1 (by simp)
  obtain ⟨m0, _, _, _, _, _, _, _, _, _, _, _⟩ := S1.cells hz
  have HW1 := Lib.hid hown1
  have HB1 := Lib.hid hB1
  clear hown1 hB1 hO1
  go_wp2_with fail
  rw [rounds_succ]
  go_wp2_with (first | (go_at_call 35; refine (node_any b s.cl _ m0 h0 h2).mono ?_; rintro e w' ⟨rfl, rfl⟩) | (with_reducible refine halt_bs ?_))
  unfold Halted
  refine wp_push (pk := mstPk (20 + s.cl) 1) (B := V2.heap.size) (mst_facts _ _).1 (mst_facts _ _).2.2.2 HW1.out (by decide) HB1.out rfl (fun _ => rfl) (fun _ => rfl) (fun g2 cap2 w2 u2 hown2 hO2 hB2 K hK => ?_)
  go_simp
  refine hK _ _ ?_
  clear hK K
  have o2 : Only [] V2 w2 := hO2 V2 (Nat.le_refl _) o1
  have S2 := hS2.keep o2 (by simp)
  obtain ⟨m2, _, _, _, _, _, _, _, _, _, _, _⟩ := S2.cells hz
  have HW2 := Lib.hid hown2
  have HB2 := Lib.hid hB2
  clear hown2 hB2 hO2
  go_wp2_with fail
  rw [rounds_succ]
  go_wp2_with (first | (go_at_call 35; refine (node_any b s.cl _ m2 h0 h2).mono ?_; rintro e w' ⟨rfl, rfl⟩) | (with_reducible refine halt_bs ?_))
  unfold Halted
  refine wp_push (pk := mstPk (20 + s.cl) 2) (B := V2.heap.size) (mst_facts _ _).1 (mst_facts _ _).2.2.2 HW2.out (by decide) HB2.out rfl (fun _ => rfl) (fun _ => rfl) (fun g3 cap3 w3 u3 hown3 hO3 hB3 K hK => ?_)
  go_simp
  refine hK _ _ ?_
  clear hK K
  have o3 : Only [] V2 w3 := hO3 V2 (Nat.le_refl _) o2
  have S3 := hS2.keep o3 (by simp)
  obtain ⟨m3, _, _, _, _, _, _, _, _, _, _, _⟩ := S3.cells hz
  have HW3 := Lib.hid hown3
  have HB3 := Lib.hid hB3
  clear hown3 hB3 hO3
  go_wp2_with fail
  obtain ⟨r31, r32⟩ := S3.req hz
  rw [rounds_succ]
  go_wp2_with fail
  refine (own_any rq s.cl num w3 hR).mono ?_
  rintro e w4 ⟨rfl, o34⟩
  have S4 := S3.keep o34 (by simp)
  have C4 := (hC.out.keep o3 (by simp)).keep o34 (by simp)
  have ho4 : Only [b, c] w w4 := (ho2.trans o3 (by simp)).trans o34 (by simp)
  have hi4 : Ints w4 s.ch [x, y] := hi.keep ho4 (by
    have h1 : w.heap[b]? = some (.cells (sv s rq c) 94 (0, 0)) := hs
    obtain ⟨_, _, h2⟩ := hc
    simp [h1, h2])
  obtain ⟨p1, p2, p3, p4⟩ := reqPk_facts rq (20 + s.cl) x hz hR.one
  go_wp2_with (first | (go_at_call 40; refine (request_any b c { s with tk := s.tk + 1 } rq rq x y _ S4 hz hz hR.one hi4 h0 h2).mono ?_; rintro e w5 ⟨rfl, o45⟩) | (with_reducible refine halt_bs ?_))
  unfold Halted
  have S5 := S4.keep o45 (by simp)
  have C5 := C4.keep o45 (by simp)
  have o35 : Only [] w3 w5 := o34.trans o45 (by simp)
  have HO3 := Lib.hid (own_keep HW3.out o35)
  have HP := Lib.hid p4
  obtain ⟨pk, hpk⟩ : ∃ pk, pk = reqPk rq (20 + s.cl) x := ⟨_, rfl⟩
  rw [← hpk] at p1 p2 p3 HP
  rw [← hpk]
  have q0 := mst_facts (20 + s.cl) 0
  have q1 := mst_facts (20 + s.cl) 1
  have q2 := mst_facts (20 + s.cl) 2
  clear hpk
  refine wp_push (pk := pk) (B := V2.heap.size) p1 HP.out HO3.out (by decide) (Nat.le_trans HB3.out o35.size) rfl (fun _ => rfl) (fun _ => rfl) (fun g4 cap4 w6 u4 hown4 hO4 hB4 K hK => ?_)
  go_simp
  refine hK _ _ ?_
  clear hK K
  have o6 : Only [] V2 w6 := hO4 V2 (Nat.le_refl _) (o3.trans o35 (by simp))
  have S6 := hS2.keep o6 (by simp)
  have HW4 := Lib.hid hown4
  clear hown4 hB4 hO4
  go_wp2_with fail
  have C6 := hC.out.keep o6 (by simp)
  go_ret
  refine ⟨g4, cap4, rfl, pk_of_row HW4.out 0 9 0 ?_ ?_, pk_of_row HW4.out 1 9 1 ?_ ?_, pk_of_row HW4.out 2 9 2 ?_ ?_, pk_of_row HW4.out 3 1 x ?_ ?_, S6, C6, ho2.trans o6 (by simp)⟩
  all_goals simp [List.getElem?_append, q0.1, q1.1, q2.1, mst0, mst2, p2, p3]
end Go.Proofs.YtlmkiekdkonofaaDoor
