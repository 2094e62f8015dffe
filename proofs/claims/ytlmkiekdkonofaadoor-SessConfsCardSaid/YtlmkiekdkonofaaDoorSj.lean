/-
  Take: a packet to another node, a config that is no newer, a newer one; Conf.
-/
import Derived.Test.YtlmkiekdkonofaaDoorSh
import Derived.Test.YtlmkiekdkonofaaDoorSi
namespace Go.Proofs.YtlmkiekdkonofaaDoor
open Go.RowKit Go.Conc

section
variable {P : Program}
/-- A whole value into a block that it fills. -/
theorem wp_st_whole {ty t : TypeId} {x y : Operand} {dst : Option Tmp} {pos : String} {aft : Array Edge} {ops : Array Oper} {rest : List Oper} {Q : Exit → Act → World → Prop} {a : Act} {w : World} {b : Nat} {C L : Array Value}
    (hb : w.heap[b]? = some (.cells C ty (0, 0))) (hx : a.eval x = .pointer (some ⟨b, 0, none⟩)) (hy : a.eval y = .agg L) (hC : C.size = L.size) (hi : (P.info? ty).map (·.size) = some L.size) (h1 : L.all (·.oneCell') = true)
    (h : ∀ V : World, V.heap[b]? = some (.cells L ty (0, 0)) → Only [b] w V → ∀ K : Act → World → Prop, (∀ a w, wpList P ops Q rest a w → K a w) → K (a.put dst undef) V) :
    wpList P ops Q ({ dst := dst, op := .store ty x y, type := t, pos := pos, after := aft, guard := none } :: rest) a w := by
  have hd2 := hp_setCells_same b L.toList 0 _ C ty (0, 0) hb
  rw [over_all C L hC] at hd2
  exact wpList_st hx hy (store_blk _ b 0 ty ty C L hb (by omega) hi h1) (h _ hd2 (Only.setCells (.inl (by simp)) _ _ (Only.refl [b] w)))
/-- Two results, the first in a cell. -/
theorem res_cell2 {fn : Func} {t u : Tmp} {ty : TypeId} {tmps : Array Value} {x : Addr} {v : Value} {w : World} (h : fn.results = #[.cell t ty, .tmp u]) (hp : tmps.getD t undef = .pointer (some x)) (hl : (Instr.loadAt ty (.pointer (some x))).run P w = .ok v w) :
    (results fn tmps).run P w = .ok (.tuple #[v, tmps.getD u undef]) w := by
  have hp' : tmps[t]?.getD undef = .pointer (some x) := by simpa using hp
  simp only [Instr.loadAt, Instr.sureAddr, Sem.run_bind, Sem.run_pure, Result.andThen_ok] at hl
  simp [results, h, hp', asAddr, hl]
end

theorem noneQ (b c : Nat) (W : World) (n : Nat) (h : W.cell? ⟨b, 48, none⟩ = some (.chan (some c))) : Calls Tryd.prog 34 #[.pointer (some ⟨b, 0, none⟩)] (W.drewN n) fun e w' => e = .returned (.bool false) ∧ w' = W.drewN n :=
  (sess_none b c (W.drewN n) h).mono fun _ _ ⟨a, b⟩ => ⟨a, b.symm⟩
theorem nodeQ (b : Nat) (cl : Int) (W : World) (n : Nat) (h : W.cell? ⟨b, 0, none⟩ = some (.int .i64 cl)) (h0 : 0 ≤ cl) (h1 : cl ≤ 2) : Calls Tryd.prog 35 #[.pointer (some ⟨b, 0, none⟩)] (W.drewN n) fun e w' => e = .returned (.int .i64 (20 + cl)) ∧ w' = W.drewN n :=
  (node_any b cl (W.drewN n) h h0 h1).mono fun _ _ ⟨a, b⟩ => ⟨a, b.symm⟩

theorem info54 : (Tryd.prog.info? 54).map (·.size) = some 38 := by kernel_rfl

theorem assert29 (v : Value) (w : World) : (Instr.typeAssert (.iface 29 v) 20 29 true).run Tryd.prog w = .ok (.tuple #[v, .bool true]) w := by kernel_rfl

/-- Take answers nothing. -/
def Took0 (w : World) (e : Ending) (w' : World) : Prop := ∃ ans : Array Value, e = .returned (.tuple #[.agg ans, .bool false]) ∧ ans.size = 38 ∧ ans.all (·.oneCell') = true ∧ Only [] w w'

set_option maxHeartbeats 1000000 in
set_option maxRecDepth 100000 in
theorem take_stray (b c : Nat) (s : St) (rq pk : Array Value) (to : Int) (w : World) (hs : SB w b c s rq) (hz : rq.size = 37) (_hp : pk.size = 87) (hto : pk[2]? = some (.int .i64 to)) (h0 : 0 ≤ s.cl) (h1 : s.cl ≤ 2) (hne : to ≠ 20 + s.cl) :
    Calls Tryd.prog 13 #[.pointer (some ⟨b, 0, none⟩), .agg pk] w (Took0 w) := by
  go_enter Tryd.func13, Tryd.ntmps13
  go_wp2_with fail
  obtain ⟨z, hzz⟩ : ∃ z : Array Value, z = #[Value.int IntKind.i64 0, Value.int IntKind.i64 0, Value.int IntKind.i64 0, Value.int IntKind.i64 0, Value.int IntKind.i64 0, Value.int IntKind.u8 0, Value.int IntKind.u8 0, Value.int IntKind.u8 0, Value.int IntKind.u8 0, Value.int IntKind.u8 0, Value.int IntKind.u8 0, Value.int IntKind.u8 0, Value.int IntKind.u8 0, Value.int IntKind.u8 0, Value.int IntKind.u8 0, Value.int IntKind.u8 0, Value.int IntKind.u8 0, Value.int IntKind.u8 0, Value.int IntKind.u8 0, Value.int IntKind.u8 0, Value.int IntKind.u8 0, Value.int IntKind.u8 0, Value.int IntKind.u8 0, Value.int IntKind.u8 0, Value.int IntKind.u8 0, Value.int IntKind.u8 0, Value.int IntKind.u8 0, Value.int IntKind.u8 0, Value.int IntKind.u8 0, Value.int IntKind.u8 0, Value.int IntKind.u8 0, Value.int IntKind.u8 0, Value.int IntKind.u8 0, Value.int IntKind.u8 0, Value.int IntKind.u8 0, Value.int IntKind.u8 0, Value.int IntKind.u8 0, Value.slice none 0 0] := ⟨_, rfl⟩
  rw [← hzz]
  have hzs : z.size = 38 := by rw [hzz]; rfl
  clear hzz
  obtain ⟨W, hW⟩ : ∃ W, W = (w.alloc (.cells pk 61)).alloc (.cells z 54) := ⟨_, rfl⟩
  rw [← hW]
  have hb1 : W.heap[w.heap.size]? = some (.cells pk 61 (0, 0)) := by rw [hW]; exact (new_two w _ _).1
  have hb2 : W.heap[w.heap.size + 1]? = some (.cells z 54 (0, 0)) := by rw [hW]; exact (new_two w _ _).2
  have ho : Only [] w W := by rw [hW]; exact ((Only.refl [] w).alloc _).alloc _
  clear hW
  have hS := hs.keep ho (by simp)
  obtain ⟨k0, _, _, _, _, _, _, _, _, _, _, k48⟩ := hS.cells hz
  have hc2 : W.cell? ⟨w.heap.size, 2, none⟩ = some (.int .i64 to) := by rw [cell_blk hb1, hto]
  have hn1 : (to != 20 + s.cl) = true := by simpa using hne
  go_quiet (first | (go_at_call 34; exact Calls.quiet_of_same (noneQ b c W _ k48)) | (go_at_call 35; exact Calls.quiet_of_same (nodeQ b s.cl W _ k0 h0 h1)))
  go_wp2_with (with_reducible refine halt_st 54 ?_)
  obtain ⟨Y, hY⟩ : ∃ Y, Y = W.drewN nq := ⟨_, rfl⟩
  rw [← hY]
  have hbY : Y.heap[w.heap.size + 1]? = some (.cells z 54 (0, 0)) := by rw [hY]; exact hb2
  have hoY : Only [] w Y := by rw [hY]; exact ho.drewN nq
  clear hY
  unfold Halted
  refine wp_st_whole (ty := 54) hbY rfl rfl (by rw [hzs]; rfl) info54 ?_ (fun V hV hOV K hK => ?_)
  · kernel_rfl
  simp only [Act.put]
  refine hK _ _ ?_
  clear hK K
  go_wp2_with fail
  have hl := load_whole (P := Tryd.prog) hV Tryd.underlying54 rfl info54
  refine bodyPost_ret (res_cell2 rfl rfl hl) rfl ?_
  exact ⟨_, rfl, by rfl, by kernel_rfl, hoY.trans hOV (by simp)⟩

set_option maxHeartbeats 400000 in
theorem held_conf (pk : Array Value) (to n : Int) (g k q : Nat) (w : World) (h : PkC pk to n (.slice (some ⟨g, 0, none⟩) k q)) :
    Calls Tryd.prog 36 #[.agg pk] w fun e w' => e = .returned (.iface 29 (.agg #[.int .i64 n, .int .i64 1, .slice (some ⟨g, 0, none⟩) k q])) ∧ Only [] w w' := by
  have hp := h.size
  obtain ⟨W, hW⟩ : ∃ W, W = w.alloc (.cells pk 61) := ⟨_, rfl⟩
  have hb1 : W.heap[w.heap.size]? = some (.cells pk 61 (0, 0)) := by rw [hW]; exact heap_alloc_new w _
  have ho : Only [] w W := by rw [hW]; exact (Only.refl [] w).alloc _
  have c0 : W.cell? ⟨w.heap.size, 0, none⟩ = some (.int .i64 7) := by rw [cell_blk hb1, h.kind]
  have c82 : W.cell? ⟨w.heap.size, 82, none⟩ = some (.int .i64 n) := by rw [cell_blk hb1, h.num]
  have c83 : W.cell? ⟨w.heap.size, 83, none⟩ = some (.int .i64 1) := by rw [cell_blk hb1, h.full]
  have c84 : W.cell? ⟨w.heap.size, 84, none⟩ = some (.slice (some ⟨g, 0, none⟩) k q) := by rw [cell_blk hb1, h.chain]
  clear h hb1
  go_enter Tryd.func36, Tryd.ntmps36
  iterate 5 (first | go_values | go_skip | go_guarded | go_step | go_upon)
  rw [← hW]
  clear hW
  go_wp2_with fail
  go_ret
  exact ⟨rfl, ho⟩

set_option maxHeartbeats 1000000 in
set_option maxRecDepth 100000 in
theorem take_old (b c : Nat) (s : St) (rq pk : Array Value) (n : Int) (g k q g' k' q' : Nat) (w : World) (hs : SB w b c s rq) (hz : rq.size = 37) (hp : PkC pk (20 + s.cl) n (.slice (some ⟨g, 0, none⟩) k q)) (h0 : 0 ≤ s.cl) (h1 : s.cl ≤ 2)
    (hold : n ≤ s.cn) (hch : s.ch = .slice (some ⟨g', 0, none⟩) k' q') (hk' : (0 : Int) < k') :
    Calls Tryd.prog 13 #[.pointer (some ⟨b, 0, none⟩), .agg pk] w (Took0 w) := by
  have hp87 := hp.size
  go_enter Tryd.func13, Tryd.ntmps13
  go_wp2_with fail
  obtain ⟨z, hzz⟩ : ∃ z : Array Value, z = #[Value.int IntKind.i64 0, Value.int IntKind.i64 0, Value.int IntKind.i64 0, Value.int IntKind.i64 0, Value.int IntKind.i64 0, Value.int IntKind.u8 0, Value.int IntKind.u8 0, Value.int IntKind.u8 0, Value.int IntKind.u8 0, Value.int IntKind.u8 0, Value.int IntKind.u8 0, Value.int IntKind.u8 0, Value.int IntKind.u8 0, Value.int IntKind.u8 0, Value.int IntKind.u8 0, Value.int IntKind.u8 0, Value.int IntKind.u8 0, Value.int IntKind.u8 0, Value.int IntKind.u8 0, Value.int IntKind.u8 0, Value.int IntKind.u8 0, Value.int IntKind.u8 0, Value.int IntKind.u8 0, Value.int IntKind.u8 0, Value.int IntKind.u8 0, Value.int IntKind.u8 0, Value.int IntKind.u8 0, Value.int IntKind.u8 0, Value.int IntKind.u8 0, Value.int IntKind.u8 0, Value.int IntKind.u8 0, Value.int IntKind.u8 0, Value.int IntKind.u8 0, Value.int IntKind.u8 0, Value.int IntKind.u8 0, Value.int IntKind.u8 0, Value.int IntKind.u8 0, Value.slice none 0 0] := ⟨_, rfl⟩
  rw [← hzz]
  have hzs : z.size = 38 := by rw [hzz]; rfl
  clear hzz
  obtain ⟨W, hW⟩ : ∃ W, W = (w.alloc (.cells pk 61)).alloc (.cells z 54) := ⟨_, rfl⟩
  rw [← hW]
  have hb1 : W.heap[w.heap.size]? = some (.cells pk 61 (0, 0)) := by rw [hW]; exact (new_two w _ _).1
  have hb2 : W.heap[w.heap.size + 1]? = some (.cells z 54 (0, 0)) := by rw [hW]; exact (new_two w _ _).2
  have ho : Only [] w W := by rw [hW]; exact ((Only.refl [] w).alloc _).alloc _
  clear hW
  have hS := hs.keep ho (by simp)
  obtain ⟨k0, _, _, _, _, _, _, _, _, _, _, k48⟩ := hS.cells hz
  have hc2 : W.cell? ⟨w.heap.size, 2, none⟩ = some (.int .i64 (20 + s.cl)) := by rw [cell_blk hb1, hp.to']
  have hn1 : (20 + s.cl != 20 + s.cl) = false := by simp
  go_quiet (first | (go_at_call 34; exact Calls.quiet_of_same (noneQ b c W _ k48)) | (go_at_call 35; exact Calls.quiet_of_same (nodeQ b s.cl W _ k0 h0 h1)))
  have hl61 : (Instr.loadAt 61 (.pointer (some ⟨w.heap.size, 0, none⟩))).run Tryd.prog (W.drewN nq) = .ok (.agg pk) (W.drewN nq) := load_whole (P := Tryd.prog) (w := W.drewN nq) hb1 Tryd.underlying61 rfl (by rw [info61, hp87])
  go_wp2_with ((with_reducible refine wpList_ld (ty := 61) ?_ hl61 (fun K hK => ?_)); rfl; go_simp; refine hK _ _ ?_; clear hK K)
  refine (held_conf pk _ n g k q _ hp).mono ?_
  rintro e w1 ⟨rfl, ho1⟩
  have hoW : Only [] W w1 := (Only.drewN (Only.refl [] W) nq).trans ho1 (by simp)
  have hta := assert29
  go_wp2_with fail
  obtain ⟨X, hX⟩ : ∃ X, X = w1.alloc (.cells #[.int .i64 n, .int .i64 1, .slice (some ⟨g, 0, none⟩) k q] 29) := ⟨_, rfl⟩
  rw [← hX]
  have hbX : X.heap[w1.heap.size]? = some (.cells #[.int .i64 n, .int .i64 1, .slice (some ⟨g, 0, none⟩) k q] 29 (0, 0)) := by rw [hX]; exact heap_alloc_new w1 _
  have hoX : Only [] W X := by rw [hX]; exact hoW.alloc _
  clear hX k0 k48 hc2
  have hSX := hS.keep hoX (by simp)
  have hbX2 := hoX.get0 hb2
  obtain ⟨xl, xf, x0, x1, x2⟩ := blk3 hbX
  obtain ⟨_, _, _, _, y4, y5, y6, y44, _, _, _, _⟩ := hSX.cells hz
  rw [hch] at y6
  have hd1 : decide (s.cn < n) = false := by simpa using hold
  have hd2 : ((k' : Int) == 0) = false := by simp; omega
  go_quiet (fail)
  go_wp2_with (with_reducible refine halt_st 54 ?_)
  obtain ⟨Y, hY⟩ : ∃ Y, Y = X.drewN nq := ⟨_, rfl⟩
  rw [← hY]
  have hbY : Y.heap[w.heap.size + 1]? = some (.cells z 54 (0, 0)) := by rw [hY]; exact hbX2
  have hoY : Only [] w Y := by rw [hY]; exact (ho.trans hoX (by simp)).drewN nq
  clear hY
  unfold Halted
  refine wp_st_whole (ty := 54) hbY rfl rfl (by rw [hzs]; rfl) info54 ?_ (fun V hV hOV K hK => ?_)
  · kernel_rfl
  simp only [Act.put]
  refine hK _ _ ?_
  clear hK K
  go_wp2_with fail
  have hl := load_whole (P := Tryd.prog) hV Tryd.underlying54 rfl info54
  refine bodyPost_ret (res_cell2 rfl rfl hl) rfl ?_
  exact ⟨_, rfl, by rfl, by kernel_rfl, hoY.trans hOV (by simp)⟩

end Go.Proofs.YtlmkiekdkonofaaDoor
