/-
  Take of a newer config.
-/
import Derived.Test.YtlmkiekdkonofaaDoorSj
namespace Go.Proofs.YtlmkiekdkonofaaDoor
open Go.RowKit Go.Conc

/-- Take has learnt a config, and lets the request be sent once more. -/
def TookC (b c : Nat) (s : St) (rq : Array Value) (n : Int) (zs : List Int) (w : World) (e : Ending) (w' : World) : Prop :=
  ∃ (ans : Array Value) (v : Value), e = .returned (.tuple #[.agg ans, .bool false]) ∧ ans.size = 38 ∧ ans.all (·.oneCell') = true ∧ Ints w' v zs ∧ SB w' b c { s with cn := n, cf := 1, ch := v } rq ∧ Ch w' c #[.agg rq] ∧ Only [b, c] w w'

set_option maxHeartbeats 2000000 in
set_option maxRecDepth 100000 in
theorem take_new (b c : Nat) (s : St) (rq pk : Array Value) (buf : Array Value) (n x y : Int) (l : Value) (w : World) (hs : SB w b c s rq) (hR : Rq rq s.cl s.nm) (hp : PkC pk (20 + s.cl) n l) (hi : Ints w l [x, y]) (h0 : 0 ≤ s.cl) (h1 : s.cl ≤ 2)
    (hnew : s.cn < n ∨ s.ch = .slice none 0 0) (hwt : s.wt = true) (hc : Ch w c buf) (hbuf : buf = #[] ∨ buf = #[.agg rq]) (hbc : b ≠ c) :
    Calls Tryd.prog 13 #[.pointer (some ⟨b, 0, none⟩), .agg pk] w (TookC b c s rq n [x, y] w) := by
  have hz := hR.size
  obtain ⟨g, q, hl0, hg, _⟩ := hi.cell
  have hl1 : l = .slice (some ⟨g, 0, none⟩) 2 q := hl0
  subst hl1
  have hp87 := hp.size
  go_enter Tryd.func13, Tryd.ntmps13
  go_wp2_with fail
  obtain ⟨z, hzz⟩ : ∃ z : Array Value, z = #[Value.int IntKind.i64 0, Value.int IntKind.i64 0, Value.int IntKind.i64 0, Value.int IntKind.i64 0, Value.int IntKind.i64 0, Value.int IntKind.u8 0, Value.int IntKind.u8 0, Value.int IntKind.u8 0, Value.int IntKind.u8 0, Value.int IntKind.u8 0, Value.int IntKind.u8 0, Value.int IntKind.u8 0, Value.int IntKind.u8 0, Value.int IntKind.u8 0, Value.int IntKind.u8 0, Value.int IntKind.u8 0, Value.int IntKind.u8 0, Value.int IntKind.u8 0, Value.int IntKind.u8 0, Value.int IntKind.u8 0, Value.int IntKind.u8 0, Value.int IntKind.u8 0, Value.int IntKind.u8 0, Value.int IntKind.u8 0, Value.int IntKind.u8 0, Value.int IntKind.u8 0, Value.int IntKind.u8 0, Value.int IntKind.u8 0, Value.int IntKind.u8 0, Value.int IntKind.u8 0, Value.int IntKind.u8 0, Value.int IntKind.u8 0, Value.int IntKind.u8 0, Value.int IntKind.u8 0, Value.int IntKind.u8 0, Value.int IntKind.u8 0, Value.int IntKind.u8 0, Value.slice none 0 0] := ⟨_, rfl⟩
  rw [← hzz]
  have hzs : z.size = 38 := by rw [hzz]; rfl
  clear hzz
  obtain ⟨W, hW⟩ : ∃ W, W = (w.alloc (.cells pk 61)).alloc (.cells z 54) := ⟨_, rfl⟩
  rw [← hW]
  have hb1 : W.heap[w.heap.size]? = some (.cells pk 61 (0, 0)) := by rw [hW]; exact (new_two w _ _).1
  have hb2 : W.heap[w.heap.size + 1]? = some (.cells z 54 (0, 0)) := by rw [hW]; exact (new_two w _ _).2
  have ho : Only [] w W := by rw [hW]; exact ((Only.refl [] w).alloc _).alloc _
  clear hW
  have hS := hs.keep ho (by simp)
  obtain ⟨k0, _, _, _, _, _, _, _, _, _, _, k48⟩ := hS.cells hz
  have hc2 : W.cell? ⟨w.heap.size, 2, none⟩ = some (.int .i64 (20 + s.cl)) := by rw [cell_blk hb1, hp.to']
  have hn1 : (20 + s.cl != 20 + s.cl) = false := by simp
  go_quiet (first | (go_at_call 34; exact Calls.quiet_of_same (noneQ b c W _ k48)) | (go_at_call 35; exact Calls.quiet_of_same (nodeQ b s.cl W _ k0 h0 h1)))
  have hl61 : (Instr.loadAt 61 (.pointer (some ⟨w.heap.size, 0, none⟩))).run Tryd.prog (W.drewN nq) = .ok (.agg pk) (W.drewN nq) := load_whole (P := Tryd.prog) (w := W.drewN nq) hb1 Tryd.underlying61 rfl (by rw [info61, hp87])
  go_wp2_with ((with_reducible refine wpList_ld (ty := 61) ?_ hl61 (fun K hK => ?_)); rfl; go_simp; refine hK _ _ ?_; clear hK K)
  refine (held_conf pk _ n g 2 q _ hp).mono ?_
  rintro e w1 ⟨rfl, ho1⟩
  have hoW : Only [] W w1 := (Only.drewN (Only.refl [] W) nq).trans ho1 (by simp)
  have hta := assert29
  go_wp2_with fail
  obtain ⟨X, hX⟩ : ∃ X, X = w1.alloc (.cells #[.int .i64 n, .int .i64 1, .slice (some ⟨g, 0, none⟩) 2 q] 29) := ⟨_, rfl⟩
  rw [← hX]
  have hbX : X.heap[w1.heap.size]? = some (.cells #[.int .i64 n, .int .i64 1, .slice (some ⟨g, 0, none⟩) 2 q] 29 (0, 0)) := by rw [hX]; exact heap_alloc_new w1 _
  have hoX : Only [] W X := by rw [hX]; exact hoW.alloc _
  clear hX k0 k48 hc2
  have hSX := hS.keep hoX (by simp)
  have hbX2 := hoX.get0 hb2
  obtain ⟨xl, xf, x0, x1, x2⟩ := blk3 hbX
  obtain ⟨_, _, _, _, y4, y5, y6, y44, _, _, _, _⟩ := hSX.cells hz
  have hCX := hc.keep (ho.trans hoX (by simp)) (by simp)
  have hiX := hi.keep0 (ho.trans hoX (by simp))
  have uns : ∀ W s', SB W b c s' rq → Ch W c buf → Calls Tryd.prog 38 #[.pointer (some ⟨b, 0, none⟩)] W (Unsent c rq W) := fun W s' h1 h2 => by
    rcases hbuf with rfl | rfl
    · exact unsent0 b c s' rq s.cl s.nm W h1 h2 hR
    · exact unsent1 b c s' rq s.cl s.nm W h1 h2 hR
  by_cases hlt : s.cn < n
  · have hd1 : decide (s.cn < n) = true := by simpa using hlt
    go_quiet (fail)
    go_wp2_with fail
    refine (clone_ints _ [x, y] (X.drewN nq) (hiX.keep0 ((Only.refl [] X).drewN nq)) (by simp)).mono ?_
    rintro e w2 ⟨v2, rfl, hi2, ho2⟩
    obtain ⟨g2, q2, hv2, _, _⟩ := hi2.cell
    have hv2' : v2 = .slice (some ⟨g2, 0, none⟩) 2 q2 := hv2
    subst hv2'
    have hoX2 : Only [] X w2 := ((Only.refl [] X).drewN nq).trans ho2 (by simp)
    have hb3 := hoX2.get0 hbX
    have hS2 := hSX.keep hoX2 (by simp)
    have hC2 := hCX.keep hoX2 (by simp)
    have hbz := hoX2.get0 hbX2
    have how : Only [] w w2 := (ho.trans hoX (by simp)).trans hoX2 (by simp)
    have hbw : b < w.heap.size := hp_lt hs
    have hcw : c < w.heap.size := by obtain ⟨_, _, hq⟩ := hc; exact hp_lt hq
    have hw1 : w.heap.size + 1 < w1.heap.size := by have := hp_lt hb2; have := hoW.size; omega
    clear xl xf x0 x1 x2 y4 y5 y6 y44 ho2
    obtain ⟨xl, xf, x0, x1, x2⟩ := blk3 hb3
    obtain ⟨_, _, _, _, y4, y5, y6, y44, _, _, _, _⟩ := hS2.cells hz
    rw [hwt] at y44
    have f4 := hS2.free 4
    have f5 := hS2.free 5
    have f6 := hS2.free 6
    have HH := Lib.hid hS2
    have HI := Lib.hid hi2
    clear hi2
    have ne1 : b ≠ w1.heap.size := by omega
    go_wp2_with fail
    obtain ⟨U, hU⟩ : ∃ U, U = ((((w2.setCell ⟨w1.heap.size, 2, none⟩ (.slice (some ⟨g2, 0, none⟩) 2 q2)).setCell ⟨b, 4, none⟩ (.int .i64 n)).setCell ⟨b, 5, none⟩ (.int .i64 1)).setCell ⟨b, 6, none⟩ (.slice (some ⟨g2, 0, none⟩) 2 q2)) := ⟨_, rfl⟩
    rw [← hU]
    have hoU : Only [w1.heap.size, b] w2 U := by
      rw [hU]
      exact ((((Only.refl [w1.heap.size, b] w2).setCell _ _ _ (.inl (by simp))).setCell _ _ _ (.inl (by simp))).setCell _ _ _ (.inl (by simp))).setCell _ _ _ (.inl (by simp))
    have hSU : SB U b c { s with cn := n, cf := 1, ch := .slice (some ⟨g2, 0, none⟩) 2 q2 } rq := by
      rw [hU]
      exact (((HH.out.keep ((Only.refl [w1.heap.size] w2).setCell _ _ _ (.inl (by simp))) (by simpa using ne1)).put (sv_cn _)).put (sv_cf _)).put (sv_ch _)
    clear hU
    have hCU : Ch U c buf := hC2.keep hoU (by simp; omega)
    have hbU := hoU.get hbz (by simp; omega)
    have hsb : w2.heap[b]? = some (.cells (sv s rq c) 94 (0, 0)) := HH.out
    have hiU : Ints U (.slice (some ⟨g2, 0, none⟩) 2 q2) [x, y] := HI.out.keep hoU (by simp [hb3, hsb])
    refine (uns U _ hSU hCU).mono ?_
    rintro e w5 ⟨rfl, hC5, ho5⟩
    have hS5 := hSU.keep ho5 (by simpa using hbc)
    have hi5 : Ints w5 (.slice (some ⟨g2, 0, none⟩) 2 q2) [x, y] := hiU.keep ho5 (by obtain ⟨_, _, hq⟩ := hCU; simp [hq])
    have hbY : w5.heap[w.heap.size + 1]? = some (.cells z 54 (0, 0)) := ho5.get hbU (by simp; omega)
    have ho6 : Only [b, c] w w5 := (((how.mono (bs' := [b, c]) (by simp)).trans hoU (by simp; omega)).trans ho5 (by simp))
    go_wp2_with (with_reducible refine halt_st 54 ?_)
    unfold Halted
    refine wp_st_whole (ty := 54) hbY rfl rfl (by rw [hzs]; rfl) info54 ?_ (fun V hV hOV K hK => ?_)
    · kernel_rfl
    simp only [Act.put]
    refine hK _ _ ?_
    clear hK K
    go_wp2_with fail
    have hl := load_whole (P := Tryd.prog) hV Tryd.underlying54 rfl info54
    refine bodyPost_ret (res_cell2 rfl rfl hl) rfl ?_
    exact ⟨_, _, rfl, by rfl, by kernel_rfl, hi5.keep hOV (by simp [hbY]), hS5.keep hOV (by simp; omega), hC5.keep hOV (by simp; omega), ho6.trans hOV (by simp)⟩
  · have hd1 : decide (s.cn < n) = false := by simpa using hlt
    have hch := hnew.resolve_left hlt
    rw [hch] at y6
    go_quiet (fail)
    go_wp2_with fail
    refine (clone_ints _ [x, y] (X.drewN nq) (hiX.keep0 ((Only.refl [] X).drewN nq)) (by simp)).mono ?_
    rintro e w2 ⟨v2, rfl, hi2, ho2⟩
    obtain ⟨g2, q2, hv2, _, _⟩ := hi2.cell
    have hv2' : v2 = .slice (some ⟨g2, 0, none⟩) 2 q2 := hv2
    subst hv2'
    have hoX2 : Only [] X w2 := ((Only.refl [] X).drewN nq).trans ho2 (by simp)
    have hb3 := hoX2.get0 hbX
    have hS2 := hSX.keep hoX2 (by simp)
    have hC2 := hCX.keep hoX2 (by simp)
    have hbz := hoX2.get0 hbX2
    have how : Only [] w w2 := (ho.trans hoX (by simp)).trans hoX2 (by simp)
    have hbw : b < w.heap.size := hp_lt hs
    have hcw : c < w.heap.size := by obtain ⟨_, _, hq⟩ := hc; exact hp_lt hq
    have hw1 : w.heap.size + 1 < w1.heap.size := by have := hp_lt hb2; have := hoW.size; omega
    clear xl xf x0 x1 x2 y4 y5 y6 y44 ho2
    obtain ⟨xl, xf, x0, x1, x2⟩ := blk3 hb3
    obtain ⟨_, _, _, _, y4, y5, y6, y44, _, _, _, _⟩ := hS2.cells hz
    rw [hwt] at y44
    have f4 := hS2.free 4
    have f5 := hS2.free 5
    have f6 := hS2.free 6
    have HH := Lib.hid hS2
    have HI := Lib.hid hi2
    clear hi2
    have ne1 : b ≠ w1.heap.size := by omega
    go_wp2_with fail
    obtain ⟨U, hU⟩ : ∃ U, U = ((((w2.setCell ⟨w1.heap.size, 2, none⟩ (.slice (some ⟨g2, 0, none⟩) 2 q2)).setCell ⟨b, 4, none⟩ (.int .i64 n)).setCell ⟨b, 5, none⟩ (.int .i64 1)).setCell ⟨b, 6, none⟩ (.slice (some ⟨g2, 0, none⟩) 2 q2)) := ⟨_, rfl⟩
    rw [← hU]
    have hoU : Only [w1.heap.size, b] w2 U := by
      rw [hU]
      exact ((((Only.refl [w1.heap.size, b] w2).setCell _ _ _ (.inl (by simp))).setCell _ _ _ (.inl (by simp))).setCell _ _ _ (.inl (by simp))).setCell _ _ _ (.inl (by simp))
    have hSU : SB U b c { s with cn := n, cf := 1, ch := .slice (some ⟨g2, 0, none⟩) 2 q2 } rq := by
      rw [hU]
      exact (((HH.out.keep ((Only.refl [w1.heap.size] w2).setCell _ _ _ (.inl (by simp))) (by simpa using ne1)).put (sv_cn _)).put (sv_cf _)).put (sv_ch _)
    clear hU
    have hCU : Ch U c buf := hC2.keep hoU (by simp; omega)
    have hbU := hoU.get hbz (by simp; omega)
    have hsb : w2.heap[b]? = some (.cells (sv s rq c) 94 (0, 0)) := HH.out
    have hiU : Ints U (.slice (some ⟨g2, 0, none⟩) 2 q2) [x, y] := HI.out.keep hoU (by simp [hb3, hsb])
    refine (uns U _ hSU hCU).mono ?_
    rintro e w5 ⟨rfl, hC5, ho5⟩
    have hS5 := hSU.keep ho5 (by simpa using hbc)
    have hi5 : Ints w5 (.slice (some ⟨g2, 0, none⟩) 2 q2) [x, y] := hiU.keep ho5 (by obtain ⟨_, _, hq⟩ := hCU; simp [hq])
    have hbY : w5.heap[w.heap.size + 1]? = some (.cells z 54 (0, 0)) := ho5.get hbU (by simp; omega)
    have ho6 : Only [b, c] w w5 := (((how.mono (bs' := [b, c]) (by simp)).trans hoU (by simp; omega)).trans ho5 (by simp))
    go_wp2_with (with_reducible refine halt_st 54 ?_)
    unfold Halted
    refine wp_st_whole (ty := 54) hbY rfl rfl (by rw [hzs]; rfl) info54 ?_ (fun V hV hOV K hK => ?_)
    · kernel_rfl
    simp only [Act.put]
    refine hK _ _ ?_
    clear hK K
    go_wp2_with fail
    have hl := load_whole (P := Tryd.prog) hV Tryd.underlying54 rfl info54
    refine bodyPost_ret (res_cell2 rfl rfl hl) rfl ?_
    exact ⟨_, _, rfl, by rfl, by kernel_rfl, hi5.keep hOV (by simp [hbY]), hS5.keep hOV (by simp; omega), hC5.keep hOV (by simp; omega), ho6.trans hOV (by simp)⟩

end Go.Proofs.YtlmkiekdkonofaaDoor
