/-
  Take of an answer with another number.
-/
import Derived.Test.YtlmkiekdkonofaaDoorSj
namespace Go.Proofs.YtlmkiekdkonofaaDoor
open Go.RowKit Go.Conc

/-- A packet that holds an answer. -/
structure PkA (pk ans : Array Value) (to cl n : Int) : Prop where
  size : pk.size = 87
  kind : pk[0]? = some (.int .i64 2)
  to' : pk[2]? = some (.int .i64 to)
  asz : ans.size = 38
  at' : ∀ j, j < 38 → pk[44 + j]? = ans[j]?
  client : ans[0]? = some (.int .i64 cl)
  num : ans[1]? = some (.int .i64 n)
  one : ans.all (·.oneCell') = true

set_option maxHeartbeats 400000 in
theorem held_ans (pk ans : Array Value) (to cl n : Int) (w : World) (h : PkA pk ans to cl n) :
    Calls Tryd.prog 36 #[.agg pk] w fun e w' => e = .returned (.iface 54 (.agg ans)) ∧ Only [] w w' := by
  have hp := h.size
  have ha := h.asz
  obtain ⟨W, hW⟩ : ∃ W, W = w.alloc (.cells pk 61) := ⟨_, rfl⟩
  have hb1 : W.heap[w.heap.size]? = some (.cells pk 61 (0, 0)) := by rw [hW]; exact heap_alloc_new w _
  have ho : Only [] w W := by rw [hW]; exact (Only.refl [] w).alloc _
  have c0 : W.cell? ⟨w.heap.size, 0, none⟩ = some (.int .i64 2) := by rw [cell_blk hb1, h.kind]
  have hl54 := load_blk (P := Tryd.prog) W w.heap.size 44 54 61 pk ans _ hb1 (fun j hj => h.at' j (by omega)) Tryd.underlying54 rfl (by rw [info54, ha])
  clear h hb1
  go_enter Tryd.func36, Tryd.ntmps36
  iterate 5 (first | go_values | go_skip | go_guarded | go_step | go_upon)
  rw [← hW]
  clear hW
  go_wp2_with ((with_reducible refine wpList_ld (ty := 54) ?_ hl54 (fun K hK => ?_)); rfl; go_simp; refine hK _ _ ?_; clear hK K)
  go_ret
  exact ⟨rfl, ho⟩

theorem assert29n (v : Value) (w : World) : (Instr.typeAssert (.iface 54 v) 20 29 true).run Tryd.prog w = .ok (.tuple #[.agg #[.int .i64 0, .int .i64 0, .slice none 0 0], .bool false]) w := by kernel_rfl
theorem assert54 (v : Value) (w : World) : (Instr.typeAssert (.iface 54 v) 20 54 true).run Tryd.prog w = .ok (.tuple #[v, .bool true]) w := by kernel_rfl

set_option maxHeartbeats 1000000 in
set_option maxRecDepth 100000 in
theorem take_ans (b c : Nat) (s : St) (rq pk ans : Array Value) (n : Int) (w : World) (hs : SB w b c s rq) (hz : rq.size = 37) (hp : PkA pk ans (20 + s.cl) s.cl n) (h0 : 0 ≤ s.cl) (h1 : s.cl ≤ 2)
    (hwt : s.wt = true) (hne : n ≠ s.nm) :
    Calls Tryd.prog 13 #[.pointer (some ⟨b, 0, none⟩), .agg pk] w (Took0 w) := by
  have hp87 := hp.size
  have ha := hp.asz
  go_enter Tryd.func13, Tryd.ntmps13
  go_wp2_with fail
  obtain ⟨z, hzz⟩ : ∃ z : Array Value, z = #[Value.int IntKind.i64 0, Value.int IntKind.i64 0, Value.int IntKind.i64 0, Value.int IntKind.i64 0, Value.int IntKind.i64 0, Value.int IntKind.u8 0, Value.int IntKind.u8 0, Value.int IntKind.u8 0, Value.int IntKind.u8 0, Value.int IntKind.u8 0, Value.int IntKind.u8 0, Value.int IntKind.u8 0, Value.int IntKind.u8 0, Value.int IntKind.u8 0, Value.int IntKind.u8 0, Value.int IntKind.u8 0, Value.int IntKind.u8 0, Value.int IntKind.u8 0, Value.int IntKind.u8 0, Value.int IntKind.u8 0, Value.int IntKind.u8 0, Value.int IntKind.u8 0, Value.int IntKind.u8 0, Value.int IntKind.u8 0, Value.int IntKind.u8 0, Value.int IntKind.u8 0, Value.int IntKind.u8 0, Value.int IntKind.u8 0, Value.int IntKind.u8 0, Value.int IntKind.u8 0, Value.int IntKind.u8 0, Value.int IntKind.u8 0, Value.int IntKind.u8 0, Value.int IntKind.u8 0, Value.int IntKind.u8 0, Value.int IntKind.u8 0, Value.int IntKind.u8 0, Value.slice none 0 0] := ⟨_, rfl⟩
  rw [← hzz]
  have hzs : z.size = 38 := by rw [hzz]; rfl
  clear hzz
  obtain ⟨W, hW⟩ : ∃ W, W = (w.alloc (.cells pk 61)).alloc (.cells z 54) := ⟨_, rfl⟩
  rw [← hW]
  have hb1 : W.heap[w.heap.size]? = some (.cells pk 61 (0, 0)) := by rw [hW]; exact (new_two w _ _).1
  have hb2 : W.heap[w.heap.size + 1]? = some (.cells z 54 (0, 0)) := by rw [hW]; exact (new_two w _ _).2
  have ho : Only [] w W := by rw [hW]; exact ((Only.refl [] w).alloc _).alloc _
  clear hW
  have hS := hs.keep ho (by simp)
  obtain ⟨k0, _, _, _, _, _, _, _, _, _, _, k48⟩ := hS.cells hz
  have hc2 : W.cell? ⟨w.heap.size, 2, none⟩ = some (.int .i64 (20 + s.cl)) := by rw [cell_blk hb1, hp.to']
  have hn1 : (20 + s.cl != 20 + s.cl) = false := by simp
  go_quiet (first | (go_at_call 34; exact Calls.quiet_of_same (noneQ b c W _ k48)) | (go_at_call 35; exact Calls.quiet_of_same (nodeQ b s.cl W _ k0 h0 h1)))
  have hl61 : (Instr.loadAt 61 (.pointer (some ⟨w.heap.size, 0, none⟩))).run Tryd.prog (W.drewN nq) = .ok (.agg pk) (W.drewN nq) := load_whole (P := Tryd.prog) (w := W.drewN nq) hb1 Tryd.underlying61 rfl (by rw [info61, hp87])
  go_wp2_with ((with_reducible refine wpList_ld (ty := 61) ?_ hl61 (fun K hK => ?_)); rfl; go_simp; refine hK _ _ ?_; clear hK K)
  refine (held_ans pk ans _ s.cl n _ hp).mono ?_
  rintro e w1 ⟨rfl, ho1⟩
  have hoW : Only [] W w1 := (Only.drewN (Only.refl [] W) nq).trans ho1 (by simp)
  have hta := assert29n
  have htb := assert54
  have A0 := hp.client
  have A1 := hp.num
  have A2 := hp.one
  clear hp
  go_wp2_with (with_reducible refine halt_st 54 ?_)
  unfold Halted
  refine wp_st_new (ty := 54) rfl rfl (by rw [ha]; rfl) (by rw [info54, ha]) A2 (fun X hbX hoX' hszX K hK => ?_)
  clear hszX
  simp only [Act.put]
  refine hK _ _ ?_
  clear hK K
  have hoX : Only [] W X := hoW.trans hoX' (by simp)
  clear k0 k48 hc2 hta htb
  have hSX := hS.keep hoX (by simp)
  have hbX2 := hoX.get0 hb2
  have x0 : X.cell? ⟨w1.heap.size, 0, none⟩ = some (.int .i64 s.cl) := by rw [cell_blk hbX, A0]
  have x1 : X.cell? ⟨w1.heap.size, 1, none⟩ = some (.int .i64 n) := by rw [cell_blk hbX, A1]
  obtain ⟨y0, _, _, _, _, _, _, y44, _, _, y47, _⟩ := hSX.cells hz
  rw [hwt] at y44
  have hd1 : (s.cl == s.cl) = true := by simp
  have hd2 : (n == s.nm) = false := by simpa using hne
  clear hoX' hoW ho1
  go_wp2_with fail
  go_quiet (fail)
  go_wp2_with (with_reducible refine halt_st 54 ?_)
  obtain ⟨Y, hY⟩ : ∃ Y, Y = X.drewN nq := ⟨_, rfl⟩
  rw [← hY]
  have hbY : Y.heap[w.heap.size + 1]? = some (.cells z 54 (0, 0)) := by rw [hY]; exact hbX2
  have hoY : Only [] w Y := by rw [hY]; exact (ho.trans hoX (by simp)).drewN nq
  clear hY
  unfold Halted
  refine wp_st_whole (ty := 54) hbY rfl rfl (by rw [hzs]; rfl) info54 ?_ (fun V hV hOV K hK => ?_)
  · kernel_rfl
  simp only [Act.put]
  refine hK _ _ ?_
  clear hK K
  go_wp2_with fail
  have hl := load_whole (P := Tryd.prog) hV Tryd.underlying54 rfl info54
  refine bodyPost_ret (res_cell2 rfl rfl hl) rfl ?_
  exact ⟨_, rfl, by rfl, by kernel_rfl, hoY.trans hOV (by simp)⟩
end Go.Proofs.YtlmkiekdkonofaaDoor
