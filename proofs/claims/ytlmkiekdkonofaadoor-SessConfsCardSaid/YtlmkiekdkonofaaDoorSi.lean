/-
  sends: what a list of packets is, by kind and addressee; conf.
-/
import Derived.Test.YtlmkiekdkonofaaDoorSa
import Derived.Test.YtlmkiekdkonofaaDoorSc
import Derived.Test.YtlmkiekdkonofaaDoorLa
namespace Go.Proofs.YtlmkiekdkonofaaDoor
open Go.RowKit Go.Conc

/-- A packet's kind and addressee, in a row. -/
def Pk (w : World) (g i : Nat) (kind to : Int) : Prop := w.cell? ⟨g, 87 * i, none⟩ = some (.int .i64 kind) ∧ w.cell? ⟨g, 87 * i + 2, none⟩ = some (.int .i64 to)

set_option maxHeartbeats 400000 in
theorem sends_none (w : World) : Calls Tryd.prog 16 #[.slice none 0 0, .bool false, .int .i64 0] w fun e w' => e = .returned (.bool true) ∧ w = w' := by
  go_enter Tryd.func16, Tryd.ntmps16
  go_wp2_with fail
  refine wp_loop_rounds 1 ?_
  rw [rounds_succ]
  go_wp2_with fail
  go_ret
  exact ⟨rfl, rfl⟩

set_option maxHeartbeats 400000 in
theorem sends_one (g cap : Nat) (hd : Int) (w : World) (h : Pk w g 0 1 hd) (h0 : 10 ≤ hd) (h1 : hd ≤ 13) : Calls Tryd.prog 16 #[.slice (some ⟨g, 0, none⟩) 1 cap, .bool false, .int .i64 hd] w fun e w' => e = .returned (.bool true) ∧ w = w' := by
  have hne : (hd != 0) = true := by simp; omega
  obtain ⟨a0, b0⟩ := h
  simp only [Nat.mul_zero, Nat.zero_add] at a0 b0
  go_enter Tryd.func16, Tryd.ntmps16
  go_wp2_with fail
  refine wp_loop_rounds 2 ?_
  iterate 2
    rw [rounds_succ]
    go_wp2_with fail
  go_ret
  exact ⟨rfl, rfl⟩

set_option maxHeartbeats 800000 in
theorem sends_asks (g cap : Nat) (w : World) (ha : Pk w g 0 9 0) (hb : Pk w g 1 9 1) (hc : Pk w g 2 9 2) : Calls Tryd.prog 16 #[.slice (some ⟨g, 0, none⟩) 3 cap, .bool true, .int .i64 0] w fun e w' => e = .returned (.bool true) ∧ w = w' := by
  obtain ⟨a0, b0⟩ := ha
  obtain ⟨a1, b1⟩ := hb
  obtain ⟨a2, b2⟩ := hc
  simp only [Nat.mul_zero, Nat.zero_add, Nat.mul_one, Nat.reduceMul, Nat.reduceAdd] at a0 b0 a1 b1 a2 b2
  go_enter Tryd.func16, Tryd.ntmps16
  go_wp2_with fail
  refine wp_loop_rounds 4 ?_
  iterate 4
    rw [rounds_succ]
    go_wp2_with fail
  go_ret
  exact ⟨rfl, rfl⟩

set_option maxHeartbeats 800000 in
theorem sends_four (g cap : Nat) (hd : Int) (w : World) (ha : Pk w g 0 9 0) (hb : Pk w g 1 9 1) (hc : Pk w g 2 9 2) (h : Pk w g 3 1 hd) (h0 : 10 ≤ hd) (h1 : hd ≤ 13) : Calls Tryd.prog 16 #[.slice (some ⟨g, 0, none⟩) 4 cap, .bool true, .int .i64 hd] w fun e w' => e = .returned (.bool true) ∧ w = w' := by
  obtain ⟨a0, b0⟩ := ha
  obtain ⟨a1, b1⟩ := hb
  obtain ⟨a2, b2⟩ := hc
  have hne : (hd != 0) = true := by simp; omega
  obtain ⟨a3, b3⟩ := h
  simp only [Nat.mul_zero, Nat.zero_add, Nat.mul_one, Nat.reduceMul, Nat.reduceAdd] at a0 b0 a1 b1 a2 b2 a3 b3
  go_enter Tryd.func16, Tryd.ntmps16
  go_wp2_with fail
  refine wp_loop_rounds 5 ?_
  iterate 5
    rw [rounds_succ]
    go_wp2_with fail
  go_ret
  exact ⟨rfl, rfl⟩

/-- A packet that holds a config. -/
structure PkC (pk : Array Value) (to n : Int) (l : Value) : Prop where
  size : pk.size = 87
  kind : pk[0]? = some (.int .i64 7)
  to' : pk[2]? = some (.int .i64 to)
  num : pk[82]? = some (.int .i64 n)
  full : pk[83]? = some (.int .i64 1)
  chain : pk[84]? = some l
  one : pk.all (·.oneCell') = true
theorem info61 : (Tryd.prog.info? 61).map (·.size) = some 87 := by kernel_rfl

section
variable {P : Program}
/-- A whole block, loaded. -/
theorem load_whole {w : World} {b : Nat} {ty : TypeId} {C : Array Value} {d : TypeDesc} (h : w.heap[b]? = some (.cells C ty (0, 0))) (hu : P.underlying ty = some d) (hd : d.isRow = true) (hi : (P.info? ty).map (·.size) = some C.size) :
    (Instr.loadAt ty (.pointer (some ⟨b, 0, none⟩))).run P w = .ok (.agg C) w :=
  load_blk w b 0 ty ty C C d h (fun j _ => by rw [Nat.zero_add]) hu hd hi
/-- A whole value into the block that was made last. -/
theorem wp_st_new {ty t : TypeId} {x y : Operand} {dst : Option Tmp} {pos : String} {aft : Array Edge} {ops : Array Oper} {rest : List Oper} {Q : Exit → Act → World → Prop} {a : Act} {w : World} {C L : Array Value}
    (hx : a.eval x = .pointer (some ⟨w.heap.size, 0, none⟩)) (hy : a.eval y = .agg L) (hC : C.size = L.size) (hi : (P.info? ty).map (·.size) = some L.size) (h1 : L.all (·.oneCell') = true)
    (h : ∀ V : World, V.heap[w.heap.size]? = some (.cells L ty (0, 0)) → Only [] w V → V.heap.size = w.heap.size + 1 → ∀ K : Act → World → Prop, (∀ a w, wpList P ops Q rest a w → K a w) → K (a.put dst undef) V) :
    wpList P ops Q ({ dst := dst, op := .store ty x y, type := t, pos := pos, after := aft, guard := none } :: rest) a (w.alloc (.cells C ty)) := by
  have hb := heap_alloc_new w (.cells C ty)
  have hd2 := hp_setCells_same w.heap.size L.toList 0 _ C ty (0, 0) hb
  rw [over_all C L hC] at hd2
  have ho : Only [] w ((w.alloc (.cells C ty)).setCells w.heap.size 0 L.toList) := Only.setCells (.inr (Nat.le_refl _)) _ _ ((Only.refl [] w).alloc _)
  refine wpList_st hx hy (store_blk _ w.heap.size 0 ty ty C L hb (by omega) hi h1) (h _ hd2 ho ?_)
  have hsz : ∀ (vs : List Value) (o : Nat) (w : World) (b : Nat), (w.setCells b o vs).heap.size = w.heap.size := by
    intro vs
    induction vs with
    | nil => intro _ _ _; rfl
    | cons v r ih => intro o w b; rw [World.setCells, ih]; simp [World.setCell]
  rw [hsz]; simp
end

set_option maxHeartbeats 400000 in
set_option maxRecDepth 100000 in
theorem conf20 (to n : Int) (g k q : Nat) (w : World) : Calls Tryd.prog 14 #[.int .i64 to, .int .i64 n, .slice (some ⟨g, 0, none⟩) k q] w fun e w' => (∃ pk, e = .returned (.agg pk) ∧ PkC pk to n (.slice (some ⟨g, 0, none⟩) k q)) ∧ Only [] w w' := by
  go_enter Tryd.func14, Tryd.ntmps14
  go_wp2_with (with_reducible refine halt_st 61 ?_)
  unfold Halted
  refine wp_st_new (ty := 61) rfl rfl rfl info61 ?_ (fun V hV hO _ K hK => ?_)
  · kernel_rfl
  simp only [Act.put]
  refine hK _ _ ?_
  clear hK K
  refine wpList_nil ?_
  go_wp2_with fail
  have hl := load_whole (P := Tryd.prog) hV Tryd.underlying61 rfl info61
  exact bodyPost_ret (v := .agg _) (res_cell rfl rfl hl) rfl ⟨⟨_, rfl, ⟨rfl, rfl, rfl, rfl, rfl, rfl, by kernel_rfl⟩⟩, hO⟩

end Go.Proofs.YtlmkiekdkonofaaDoor
