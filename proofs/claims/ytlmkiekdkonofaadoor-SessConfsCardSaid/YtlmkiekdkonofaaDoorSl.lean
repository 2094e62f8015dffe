/-
  Conf.
-/
import Derived.Test.YtlmkiekdkonofaaDoorSj
namespace Go.Proofs.YtlmkiekdkonofaaDoor
open Go.RowKit Go.Conc

def GivesC (n f : Int) (zs : List Int) (w : World) (e : Ending) (w' : World) : Prop := ∃ v, e = .returned (.agg #[.int .i64 n, .int .i64 f, v]) ∧ Ints w' v zs ∧ Only [] w w'

set_option maxHeartbeats 1000000 in
theorem conf_of (b c : Nat) (s : St) (rq : Array Value) (x y : Int) (w : World) (hs : SB w b c s rq) (hz : rq.size = 37) (hi : Ints w s.ch [x, y]) :
    Calls Tryd.prog 15 #[.pointer (some ⟨b, 0, none⟩)] w (GivesC s.cn s.cf [x, y] w) := by
  go_enter Tryd.func15, Tryd.ntmps15
  go_wp2_with fail
  obtain ⟨W, hW⟩ : ∃ W, W = w.alloc (.cells #[.int .i64 0, .int .i64 0, .slice none 0 0] 29) := ⟨_, rfl⟩
  rw [← hW]
  have hb1 : W.heap[w.heap.size]? = some (.cells #[.int .i64 0, .int .i64 0, .slice none 0 0] 29 (0, 0)) := by rw [hW]; exact heap_alloc_new w _
  have ho : Only [] w W := by rw [hW]; exact (Only.refl [] w).alloc _
  clear hW
  have hS := hs.keep ho (by simp)
  obtain ⟨_, _, _, _, k4, k5, k6, _, _, _, _, k48⟩ := hS.cells hz
  obtain ⟨g, q, hv, _, _⟩ := hi.cell
  have hv' : s.ch = .slice (some ⟨g, 0, none⟩) 2 q := hv
  rw [hv'] at k6 hi
  have HI := Lib.hid (hi.keep0 ho)
  clear hi hv hv'
  refine (sess_none b c W k48).mono ?_
  rintro e w1 ⟨rfl, rfl⟩
  go_wp2_with fail
  obtain ⟨X, hX⟩ : ∃ X, X = W.alloc (.cells #[.int .i64 s.cn, .int .i64 s.cf, .slice (some ⟨g, 0, none⟩) 2 q] 29) := ⟨_, rfl⟩
  rw [← hX]
  have hb2 : X.heap[W.heap.size]? = some (.cells #[.int .i64 s.cn, .int .i64 s.cf, .slice (some ⟨g, 0, none⟩) 2 q] 29 (0, 0)) := by rw [hX]; exact heap_alloc_new W _
  have hoX : Only [] W X := by rw [hX]; exact (Only.refl [] W).alloc _
  clear hX
  refine (clone_ints _ [x, y] X (HI.out.keep0 hoX) (by simp)).mono ?_
  rintro e w2 ⟨v2, rfl, hi2, ho2⟩
  obtain ⟨g2, q2, hv2, _, _⟩ := hi2.cell
  have hv2' : v2 = .slice (some ⟨g2, 0, none⟩) 2 q2 := hv2
  subst hv2'
  have b0 := (hoX.trans ho2 (by simp)).get0 hb1
  have b1 := ho2.get0 hb2
  obtain ⟨l0, f0, c00, c01, c02⟩ := blk3 b0
  obtain ⟨l1, f1, c10, c11, c12⟩ := blk3 b1
  have hne : w.heap.size ≠ W.heap.size := by have := hp_lt hb1; omega
  have B0 := Lib.hid b0
  have B1 := Lib.hid b1
  have HO := Lib.hid ((ho.trans hoX (by simp)).trans ho2 (by simp))
  have HI2 := Lib.hid hi2
  have hge : w.heap.size ≤ W.heap.size := ho.size
  clear ho2 hi2 b0 b1 k4 k5 k6 k48
  go_wp2_with fail
  refine bodyPost_ret (v := .agg #[.int .i64 s.cn, .int .i64 s.cf, .slice (some ⟨g2, 0, none⟩) 2 q2]) ?_ rfl ⟨_, rfl, ?_, ?_⟩
  · simp [results, Tryd.results15, go_sem, c00, c01, c02]
  · refine HI2.out.keep (bs := [w.heap.size, W.heap.size]) ?_ ?_
    · repeat' (first | with_reducible refine Only.alloc ?_ _ | with_reducible refine Only.setCell ?_ _ _ _ (by simp) | with_reducible exact Only.refl _ _)
    · simp [B0.out, B1.out]
  · have h1 := HO.out
    repeat' (first | with_reducible exact h1 | with_reducible refine Only.setCell ?_ _ _ _ (by simp; omega) | with_reducible refine Only.setCell ?_ _ _ _ (by simp))

end Go.Proofs.YtlmkiekdkonofaaDoor
