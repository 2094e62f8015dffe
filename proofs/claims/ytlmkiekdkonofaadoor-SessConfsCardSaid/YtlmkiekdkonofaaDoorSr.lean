/-
  Ticks that ask the masters.
-/
import Derived.Test.YtlmkiekdkonofaaDoorSs
import Derived.Test.YtlmkiekdkonofaaDoorSn
namespace Go.Proofs.YtlmkiekdkonofaaDoor
open Go.RowKit Go.Conc

theorem halt_bs {P : Program} {parts : Array (Nat × Operand)} {t : TypeId} {dst : Option Tmp} {pos : String} {aft : Array Edge} {ops : Array Oper} {rest : List Oper} {Q : Exit → Act → World → Prop} {a : Act} {w : World}
    (h : Halted (wpList P ops Q ({ dst := dst, op := .buildSlice 65 1 parts, type := t, pos := pos, after := aft, guard := none } :: rest) a w)) :
    wpList P ops Q ({ dst := dst, op := .buildSlice 65 1 parts, type := t, pos := pos, after := aft, guard := none } :: rest) a w := h

/-- A packet that asks a master. -/
noncomputable def mstPk (f i : Int) : Array Value := ((Tryd.zeroCells61.setIfInBounds 0 (.int .i64 9)).setIfInBounds 1 (.int .i64 f)).setIfInBounds 2 (.int .i64 i)
theorem mst_facts (f i : Int) : (mstPk f i).size = 87 ∧ (mstPk f i)[0]? = some (.int .i64 9) ∧ (mstPk f i)[2]? = some (.int .i64 i) ∧ (mstPk f i).all (·.oneCell') = true := by
  unfold mstPk
  refine ⟨by rw [Array.size_setIfInBounds, Array.size_setIfInBounds, Array.size_setIfInBounds, z61_size], by simp, by simp, ?_⟩
  rw [Array.all_eq_true_iff_forall_mem]
  intro v hv
  rcases Array.mem_or_eq_of_mem_setIfInBounds hv with hv | rfl
  · rcases Array.mem_or_eq_of_mem_setIfInBounds hv with hv | rfl
    · rcases Array.mem_or_eq_of_mem_setIfInBounds hv with hv | rfl
      · exact Array.all_eq_true_iff_forall_mem.1 z61_one v hv
      · rfl
    · rfl
  · rfl
theorem mst0 (f i : Int) (h : 0 < (mstPk f i).size) : (mstPk f i)[0] = .int .i64 9 := by
  have := (mst_facts f i).2.1
  rw [Array.getElem?_eq_getElem h] at this
  exact Option.some.inj this
theorem mst2 (f i : Int) (h : 2 < (mstPk f i).size) : (mstPk f i)[2] = .int .i64 i := by
  have := (mst_facts f i).2.2.1
  rw [Array.getElem?_eq_getElem h] at this
  exact Option.some.inj this
/-- The three masters are asked. -/
def SentM (b c : Nat) (s : St) (rq buf : Array Value) (w : World) (e : Ending) (w' : World) : Prop :=
  ∃ g cap, e = .returned (.slice (some ⟨g, 0, none⟩) 3 cap) ∧ Pk w' g 0 9 0 ∧ Pk w' g 1 9 1 ∧ Pk w' g 2 9 2 ∧ Ticked b c s rq buf w w'

set_option maxHeartbeats 1000000 in
set_option maxRecDepth 100000 in
theorem tick_masters (b c : Nat) (s : St) (rq : Array Value) (w : World) (hs : SB w b c s rq) (hz : rq.size = 37) (hch : s.ch = .slice none 0 0) (buf : Array Value) (hc : Ch w c buf) (hbc : b ≠ c) (hwt : s.wt = true)
    (ht0 : 0 ≤ s.tk) (ht1 : s.tk + 1 ≤ s.mo) (hm : s.mo ≤ 100000) (hl : 0 < s.li) (hl1 : s.li ≤ 1000) (h0 : 0 ≤ s.cl) (h2 : s.cl ≤ 2) (hask : (s.tk + 1) % s.li = 0 ∨ ((s.tk + 1) % s.li ≠ 0 ∧ buf.size = 1)) :
    Calls Tryd.prog 17 #[.pointer (some ⟨b, 0, none⟩)] w (SentM b c s rq buf w) := by
  obtain ⟨k0, k1, k2, k3, k4, k5, k6, k44, k45, k46, k47, k48⟩ := hs.cells hz
  rw [hwt] at k44
  rw [hch] at k6
  have f46 := hs.free 46
  go_enter Tryd.func17, Tryd.ntmps17
  go_wp2_with (first | (go_at_call 34; refine (sess_none b c _ k48).mono ?_; rintro e w' ⟨rfl, rfl⟩))
  obtain ⟨V, hV⟩ : ∃ V, V = w.setCell ⟨b, 46, none⟩ (.int .i64 (s.tk + 1)) := ⟨_, rfl⟩
  rw [← hV]
  have hSV : SB V b c { s with tk := s.tk + 1 } rq := by rw [hV]; exact hs.put (sv_tk hz _)
  have hoV : Only [b] w V := by rw [hV]; exact (Only.refl [b] w).setCell _ _ _ (.inl (by simp))
  have hCV : Ch V c buf := hc.keep hoV (by simpa using fun e : c = b => hbc e.symm)
  clear hV k0 k1 k2 k3 k4 k5 k6 k44 k45 k46 k47 k48 f46
  obtain ⟨k0, k1, k2, k3, k4, k5, k6, k44, k45, k46, k47, k48⟩ := hSV.cells hz
  simp only at k0 k1 k2 k3 k4 k5 k6 k44 k45 k46 k47
  rw [hwt] at k44
  rw [hch] at k6
  have hd1 : decide (s.mo < s.tk + 1) = false := by simpa using ht1
  go_quiet (fail)
  obtain ⟨V1, hV1⟩ : ∃ V1, V1 = V.drewN nq := ⟨_, rfl⟩
  rw [← hV1]
  have hS1 : SB V1 b c { s with tk := s.tk + 1 } rq := by rw [hV1]; exact hSV
  have hC1 : Ch V1 c buf := by rw [hV1]; exact hCV
  have ho1 : Only [b, c] w V1 := by rw [hV1]; exact (hoV.mono (by simp)).drewN nq
  clear hV1 k0 k1 k2 k3 k4 k5 k6 k44 k45 k46 k47 k48 hSV hCV hoV nq
  obtain ⟨k0, k1, k2, k3, k4, k5, k6, k44, k45, k46, k47, k48⟩ := hS1.cells hz
  simp only at k0 k1 k2 k3 k4 k5 k6 k44 k45 k46 k47
  rw [hwt] at k44
  rw [hch] at k6
  have hl2 : s.li ≠ 0 := by omega
  rcases hask with hm0 | ⟨hm0, hsz⟩
  · have hd2 : ((s.tk + 1) % s.li == 0) = true := by simpa using hm0
    go_wp2_with fail
    go_quiet (fail)
    obtain ⟨V2, hV2⟩ : ∃ V2, V2 = V1.drewN nq := ⟨_, rfl⟩
    rw [← hV2]
    have hS2 : SB V2 b c { s with tk := s.tk + 1 } rq := by rw [hV2]; exact hS1
    have hC2 : Ch V2 c buf := by rw [hV2]; exact hC1
    have ho2 : Only [b, c] w V2 := by rw [hV2]; exact ho1.drewN nq
    clear hV2 k0 k1 k2 k3 k4 k5 k6 k44 k45 k46 k47 k48 hS1 hC1 ho1 nq
    obtain ⟨k0, k1, k2, k3, k4, k5, k6, k44, k45, k46, k47, k48⟩ := hS2.cells hz
    simp only at k0 k1 k2 k3 k4 k5 k6 k44 k45 k46 k47
    rw [hwt] at k44
    rw [hch] at k6
    have hC := Lib.hid hC2
    obtain ⟨sn, rn, hblk⟩ := hC2
    have hlen := fun ty => run_len_chan (P := Tryd.prog) 92 ty Tryd.underlying92 hblk
    go_wp2_with fail
    refine wp_loop_rounds 4 ?_
    rw [rounds_succ]
    go_wp2_with (first | (go_at_call 35; refine (node_any b s.cl _ k0 h0 h2).mono ?_; rintro e w' ⟨rfl, rfl⟩) | (with_reducible refine halt_bs ?_))
    unfold Halted
    refine wp_push (pk := mstPk (20 + s.cl) 0) (B := V2.heap.size) (mst_facts _ _).1 (mst_facts _ _).2.2.2 (pkrow_nil V2 V2.heap.size) (by decide) (Nat.le_refl _) rfl (fun _ => rfl) (fun _ => rfl) (fun g1 cap1 w1 u1 hown1 hO1 hB1 K hK => ?_)
    go_simp
    refine hK _ _ ?_
    clear hK K
    have o1 : Only [] V2 w1 := hO1 V2 (Nat.le_refl _) (Only.refl [] V2)
    have S1 := hS2.keep o1 (by simp)
    obtain ⟨m0, _, _, _, _, _, _, _, _, _, _, _⟩ := S1.cells hz
    have HW1 := Lib.hid hown1
    have HB1 := Lib.hid hB1
    clear hown1 hB1 hO1
    go_wp2_with fail
    rw [rounds_succ]
    go_wp2_with (first | (go_at_call 35; refine (node_any b s.cl _ m0 h0 h2).mono ?_; rintro e w' ⟨rfl, rfl⟩) | (with_reducible refine halt_bs ?_))
    unfold Halted
    refine wp_push (pk := mstPk (20 + s.cl) 1) (B := V2.heap.size) (mst_facts _ _).1 (mst_facts _ _).2.2.2 HW1.out (by decide) HB1.out rfl (fun _ => rfl) (fun _ => rfl) (fun g2 cap2 w2 u2 hown2 hO2 hB2 K hK => ?_)
    go_simp
    refine hK _ _ ?_
    clear hK K
    have o2 : Only [] V2 w2 := hO2 V2 (Nat.le_refl _) o1
    have S2 := hS2.keep o2 (by simp)
    obtain ⟨m2, _, _, _, _, _, _, _, _, _, _, _⟩ := S2.cells hz
    have HW2 := Lib.hid hown2
    have HB2 := Lib.hid hB2
    clear hown2 hB2 hO2
    go_wp2_with fail
    rw [rounds_succ]
    go_wp2_with (first | (go_at_call 35; refine (node_any b s.cl _ m2 h0 h2).mono ?_; rintro e w' ⟨rfl, rfl⟩) | (with_reducible refine halt_bs ?_))
    unfold Halted
    refine wp_push (pk := mstPk (20 + s.cl) 2) (B := V2.heap.size) (mst_facts _ _).1 (mst_facts _ _).2.2.2 HW2.out (by decide) HB2.out rfl (fun _ => rfl) (fun _ => rfl) (fun g3 cap3 w3 u3 hown3 hO3 hB3 K hK => ?_)
    go_simp
    refine hK _ _ ?_
    clear hK K
    have o3 : Only [] V2 w3 := hO3 V2 (Nat.le_refl _) o2
    have S3 := hS2.keep o3 (by simp)
    obtain ⟨m3, _, _, _, _, _, _, _, _, _, _, _⟩ := S3.cells hz
    have HW3 := Lib.hid hown3
    have HB3 := Lib.hid hB3
    clear hown3 hB3 hO3
    go_wp2_with fail
    rw [rounds_succ]
    go_wp2_with fail
    have C3 := hC.out.keep o3 (by simp)
    have q0 := mst_facts (20 + s.cl) 0
    have q1 := mst_facts (20 + s.cl) 1
    have q2 := mst_facts (20 + s.cl) 2
    go_ret
    refine ⟨g3, cap3, rfl, pk_of_row HW3.out 0 9 0 ?_ ?_, pk_of_row HW3.out 1 9 1 ?_ ?_, pk_of_row HW3.out 2 9 2 ?_ ?_, S3, C3, ho2.trans o3 (by simp)⟩
    all_goals simp [q0.1, q1.1, q2.1, mst0, mst2]
  · have hd2 : ((s.tk + 1) % s.li == 0) = false := by simpa using hm0
    go_wp2_with fail
    go_quiet (fail)
    obtain ⟨V2, hV2⟩ : ∃ V2, V2 = V1.drewN nq := ⟨_, rfl⟩
    rw [← hV2]
    have hS2 : SB V2 b c { s with tk := s.tk + 1 } rq := by rw [hV2]; exact hS1
    have hC2 : Ch V2 c buf := by rw [hV2]; exact hC1
    have ho2 : Only [b, c] w V2 := by rw [hV2]; exact ho1.drewN nq
    clear hV2 k0 k1 k2 k3 k4 k5 k6 k44 k45 k46 k47 k48 hS1 hC1 ho1 nq
    obtain ⟨k0, k1, k2, k3, k4, k5, k6, k44, k45, k46, k47, k48⟩ := hS2.cells hz
    simp only at k0 k1 k2 k3 k4 k5 k6 k44 k45 k46 k47
    rw [hwt] at k44
    rw [hch] at k6
    have hC := Lib.hid hC2
    obtain ⟨sn, rn, hblk⟩ := hC2
    have hlen := fun ty => run_len_chan (P := Tryd.prog) 92 ty Tryd.underlying92 hblk
    go_wp2_with fail
    refine wp_loop_rounds 4 ?_
    rw [rounds_succ]
    go_wp2_with (first | (go_at_call 35; refine (node_any b s.cl _ k0 h0 h2).mono ?_; rintro e w' ⟨rfl, rfl⟩) | (with_reducible refine halt_bs ?_))
    unfold Halted
    refine wp_push (pk := mstPk (20 + s.cl) 0) (B := V2.heap.size) (mst_facts _ _).1 (mst_facts _ _).2.2.2 (pkrow_nil V2 V2.heap.size) (by decide) (Nat.le_refl _) rfl (fun _ => rfl) (fun _ => rfl) (fun g1 cap1 w1 u1 hown1 hO1 hB1 K hK => ?_)
    go_simp
    refine hK _ _ ?_
    clear hK K
    have o1 : Only [] V2 w1 := hO1 V2 (Nat.le_refl _) (Only.refl [] V2)
    have S1 := hS2.keep o1 (by simp)
    obtain ⟨m0, _, _, _, _, _, _, _, _, _, _, _⟩ := S1.cells hz
    have HW1 := Lib.hid hown1
    have HB1 := Lib.hid hB1
    clear hown1 hB1 hO1
    go_wp2_with fail
    rw [rounds_succ]
    go_wp2_with (first | (go_at_call 35; refine (node_any b s.cl _ m0 h0 h2).mono ?_; rintro e w' ⟨rfl, rfl⟩) | (with_reducible refine halt_bs ?_))
    unfold Halted
    refine wp_push (pk := mstPk (20 + s.cl) 1) (B := V2.heap.size) (mst_facts _ _).1 (mst_facts _ _).2.2.2 HW1.out (by decide) HB1.out rfl (fun _ => rfl) (fun _ => rfl) (fun g2 cap2 w2 u2 hown2 hO2 hB2 K hK => ?_)
    go_simp
    refine hK _ _ ?_
    clear hK K
    have o2 : Only [] V2 w2 := hO2 V2 (Nat.le_refl _) o1
    have S2 := hS2.keep o2 (by simp)
    obtain ⟨m2, _, _, _, _, _, _, _, _, _, _, _⟩ := S2.cells hz
    have HW2 := Lib.hid hown2
    have HB2 := Lib.hid hB2
    clear hown2 hB2 hO2
    go_wp2_with fail
    rw [rounds_succ]
    go_wp2_with (first | (go_at_call 35; refine (node_any b s.cl _ m2 h0 h2).mono ?_; rintro e w' ⟨rfl, rfl⟩) | (with_reducible refine halt_bs ?_))
    unfold Halted
    refine wp_push (pk := mstPk (20 + s.cl) 2) (B := V2.heap.size) (mst_facts _ _).1 (mst_facts _ _).2.2.2 HW2.out (by decide) HB2.out rfl (fun _ => rfl) (fun _ => rfl) (fun g3 cap3 w3 u3 hown3 hO3 hB3 K hK => ?_)
    go_simp
    refine hK _ _ ?_
    clear hK K
    have o3 : Only [] V2 w3 := hO3 V2 (Nat.le_refl _) o2
    have S3 := hS2.keep o3 (by simp)
    obtain ⟨m3, _, _, _, _, _, _, _, _, _, _, _⟩ := S3.cells hz
    have HW3 := Lib.hid hown3
    have HB3 := Lib.hid hB3
    clear hown3 hB3 hO3
    go_wp2_with fail
    rw [rounds_succ]
    go_wp2_with fail
    have C3 := hC.out.keep o3 (by simp)
    have q0 := mst_facts (20 + s.cl) 0
    have q1 := mst_facts (20 + s.cl) 1
    have q2 := mst_facts (20 + s.cl) 2
    go_ret
    refine ⟨g3, cap3, rfl, pk_of_row HW3.out 0 9 0 ?_ ?_, pk_of_row HW3.out 1 9 1 ?_ ?_, pk_of_row HW3.out 2 9 2 ?_ ?_, S3, C3, ho2.trans o3 (by simp)⟩
    all_goals simp [q0.1, q1.1, q2.1, mst0, mst2]

end Go.Proofs.YtlmkiekdkonofaaDoor
