/-
  Tick that sends the request that waits in the channel.
-/
import Derived.Test.YtlmkiekdkonofaaDoorSp
namespace Go.Proofs.YtlmkiekdkonofaaDoor
open Go.RowKit Go.Conc

/-- One packet, to the head. -/
def Sent1 (b c : Nat) (s : St) (rq : Array Value) (x : Int) (w : World) (e : Ending) (w' : World) : Prop :=
  ∃ g cap, e = .returned (.slice (some ⟨g, 0, none⟩) 1 cap) ∧ Pk w' g 0 1 x ∧ Ticked b c s rq #[] w w'

attribute [local go_sem ↓] pre58
attribute [local go_sem] load58
set_option maxHeartbeats 1000000 in
set_option maxRecDepth 100000 in
theorem tick1 (b c : Nat) (s : St) (rq : Array Value) (x y : Int) (w : World) (hs : SB w b c s rq) (hz : rq.size = 37) (hi : Ints w s.ch [x, y]) (hc : Ch w c #[.agg rq]) (hbc : b ≠ c) (h1 : rq.all (·.oneCell') = true) (h0 : 0 ≤ s.cl) (h2 : s.cl ≤ 2) (hwt : s.wt = true)
    (ht0 : 0 ≤ s.tk) (ht1 : s.tk + 1 ≤ s.mo) (hm : s.mo ≤ 100000) (hl : 0 < s.li) (hl1 : s.li ≤ 1000) (hrem : (s.tk + 1) % s.li ≠ 0) :
    Calls Tryd.prog 17 #[.pointer (some ⟨b, 0, none⟩)] w (Sent1 b c s rq x w) := by
  obtain ⟨k0, k1, k2, k3, k4, k5, k6, k44, k45, k46, k47, k48⟩ := hs.cells hz
  rw [hwt] at k44
  obtain ⟨g, q, hv, _, _⟩ := hi.cell
  have hv' : s.ch = .slice (some ⟨g, 0, none⟩) 2 q := hv
  rw [hv'] at k6
  have f46 := hs.free 46
  go_enter Tryd.func17, Tryd.ntmps17
  go_wp2_with (first | (go_at_call 34; refine (sess_none b c _ k48).mono ?_; rintro e w' ⟨rfl, rfl⟩))
  obtain ⟨V, hV⟩ : ∃ V, V = w.setCell ⟨b, 46, none⟩ (.int .i64 (s.tk + 1)) := ⟨_, rfl⟩
  rw [← hV]
  have hSV : SB V b c { s with tk := s.tk + 1 } rq := by rw [hV]; exact hs.put (sv_tk hz _)
  have hoV : Only [b] w V := by rw [hV]; exact (Only.refl [b] w).setCell _ _ _ (.inl (by simp))
  have hCV : Ch V c #[.agg rq] := hc.keep hoV (by simpa using fun e : c = b => hbc e.symm)
  clear hV k0 k1 k2 k3 k4 k5 k6 k44 k45 k46 k47 k48 f46
  obtain ⟨k0, k1, k2, k3, k4, k5, k6, k44, k45, k46, k47, k48⟩ := hSV.cells hz
  simp only at k0 k1 k2 k3 k4 k5 k6 k44 k45 k46 k47
  rw [hwt] at k44
  rw [hv'] at k6
  have hd1 : decide (s.mo < s.tk + 1) = false := by simpa using ht1
  go_quiet (fail)
  obtain ⟨V1, hV1⟩ : ∃ V1, V1 = V.drewN nq := ⟨_, rfl⟩
  rw [← hV1]
  have hS1 : SB V1 b c { s with tk := s.tk + 1 } rq := by rw [hV1]; exact hSV
  have hC1 : Ch V1 c #[.agg rq] := by rw [hV1]; exact hCV
  have ho1 : Only [b, c] w V1 := by rw [hV1]; exact (hoV.mono (by simp)).drewN nq
  clear hV1 k0 k1 k2 k3 k4 k5 k6 k44 k45 k46 k47 k48 hSV hCV hoV nq
  obtain ⟨k0, k1, k2, k3, k4, k5, k6, k44, k45, k46, k47, k48⟩ := hS1.cells hz
  simp only at k0 k1 k2 k3 k4 k5 k6 k44 k45 k46 k47
  rw [hwt] at k44
  rw [hv'] at k6
  have hl2 : s.li ≠ 0 := by omega
  have hd2 : ((s.tk + 1) % s.li == 0) = false := by simpa using hrem
  go_wp2_with fail
  go_quiet (fail)
  obtain ⟨V2, hV2⟩ : ∃ V2, V2 = V1.drewN nq := ⟨_, rfl⟩
  rw [← hV2]
  have hS2 : SB V2 b c { s with tk := s.tk + 1 } rq := by rw [hV2]; exact hS1
  have hC2 : Ch V2 c #[.agg rq] := by rw [hV2]; exact hC1
  have ho2 : Only [b, c] w V2 := by rw [hV2]; exact ho1.drewN nq
  clear hV2 k0 k1 k2 k3 k4 k5 k6 k44 k45 k46 k47 k48 hS1 hC1 ho1 nq
  obtain ⟨k0, k1, k2, k3, k4, k5, k6, k44, k45, k46, k47, k48⟩ := hS2.cells hz
  simp only at k0 k1 k2 k3 k4 k5 k6 k44 k45 k46 k47
  rw [hwt] at k44
  rw [hv'] at k6
  repeat (first | with_reducible refine wp_recv1 (id := 11) (x := .tmp 60) ?_ ?_ ?_ zero58 hC2 (fun V3 hC3 ho3 hsz3 K hK => ?_) | go_values | go_skip | go_guarded | go_step | go_upon)
  · rfl
  · rfl
  · rfl
  clear hsz3
  go_simp
  refine hK _ _ ?_
  clear hK K
  have hS3 := hS2.keep ho3 (by simpa using hbc)
  have ho4 : Only [b, c] w V3 := ho2.trans ho3 (by simp)
  clear hS2 hC2 ho2 k0 k1 k2 k3 k4 k5 k6 k44 k45 k46 k47 k48
  go_wp2_with (with_reducible refine halt_st 58 ?_)
  unfold Halted
  refine wp_st_new (ty := 58) rfl rfl ?_ (by rw [info58, hz]) h1 (fun V4 hb4 ho5 hsz4 K hK => ?_)
  · rw [hz]; rfl
  clear hsz4
  simp only [Act.put]
  refine hK _ _ ?_
  clear hK K
  have hr := req_at (w := V4) (b := V3.heap.size) (o := 0) hz (fun j v hv => by rw [cell_blk hb4, Nat.zero_add]; simpa using hv)
  obtain ⟨hr1, hr2⟩ := hr
  go_wp2_with fail
  have hS4 := hS3.keep ho5 (by simp)
  have hC4 := hC3.keep ho5 (by simp)
  have hi4 : Ints V4 s.ch [x, y] := hi.keep (ho4.trans ho5 (by simp)) (by
    have h1 : w.heap[b]? = some (.cells (sv s rq c) 94 (0, 0)) := hs
    obtain ⟨_, _, h2⟩ := hc
    simp [h1, h2])
  refine (request_any b c { s with tk := s.tk + 1 } rq rq x y V4 hS4 hz hz h1 hi4 h0 h2).mono ?_
  rintro e w5 ⟨rfl, ho6⟩
  have hS5 := hS4.keep ho6 (by simp)
  have hC5 := hC4.keep ho6 (by simp)
  obtain ⟨hp1, hp2, hp3, hp4⟩ := reqPk_facts rq (20 + s.cl) x hz h1
  obtain ⟨pk, hpk⟩ : ∃ pk, pk = reqPk rq (20 + s.cl) x := ⟨_, rfl⟩
  rw [← hpk] at hp1 hp2 hp3 hp4
  rw [← hpk]
  clear hpk
  obtain ⟨i0, hi0, hz0, hz1, hz2⟩ := info_parts info61p
  have hnil := pkrow_nil (w5.alloc (.cells pk 61)) w5.heap.size
  dsimp only
  go_step
  refine wpList_bs (pk := pk) ?_ hp1 (fun K hK => ?_)
  · rfl
  go_simp
  refine hK _ _ ?_
  clear hK K
  refine wpList_append_lies _ rfl _ _ 65 rfl w5.heap.size 61 i0 (.agg Tryd.zeroCells61) 87 328 Tryd.underlying65 hi0 hz0 hz1 hz2 z61_size (by decide) (.slice none 0 0) 0 [] rfl hnil ⟨w5.heap.size, 0, none⟩ 1 1 pk.toList rfl ?qc1 ?qc2 ?qc3 ?qc4 ?qc5 ?qc6 ?qc7 (w5.heap.size + 1) ?qc8 ?qc9
  case qc1 => simpa using hp1
  case qc2 => exact World.news_of_block (heap_alloc_new w5 (.cells pk 61))
  case qc3 => exact fun v hv => Array.all_eq_true_iff_forall_mem.1 hp4 v (by simpa using hv)
  case qc4 => decide
  case qc5 => unfold maxLen; decide
  case qc6 => decide
  case qc7 => simp
  case qc8 => simp
  case qc9 =>
    intro g1 cap w6 hown hgrow _ hg1
    have ho7 : Only [] w5 w6 := ((Only.refl [] w5).alloc _).grown hgrow (by intro k hk; simp [Value.ownBlock] at hk)
    have hS6 := hS5.keep ho7 (by simp)
    have hC6 := hC5.keep ho7 (by simp)
    have hpk : Pk w6 g1 0 1 x := pk_of_row hown 0 1 x (by simpa using hp2) (by simpa using hp3)
    have hO : Only [b, c] w w6 := (((ho4.trans ho5 (by simp)).trans ho6 (by simp)).trans ho7 (by simp))
    obtain ⟨_, _, _, _, _, _, _, _, _, _, _, k48⟩ := hS6.cells hz
    obtain ⟨sn, rn, hblk⟩ := hC6
    have hlen := fun ty => run_len_chan (P := Tryd.prog) 92 ty Tryd.underlying92 hblk
    clear hown hgrow hnil
    simp only [Act.put]
    go_wp2_with fail
    go_ret
    exact ⟨g1, cap, rfl, hpk, hS6, ⟨sn, rn, hblk⟩, hO⟩

end Go.Proofs.YtlmkiekdkonofaaDoor
