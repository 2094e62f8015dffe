/-
  enoughOf: the range over the set's own iterator; it answers whether two masters are in the set.
-/
import Derived.Test.YtlmkiekdkonofaaDoorLa
import Derived.RangeFuncFrom
import Derived.RangeFuncNested
import Derived.RangeFuncBound
import Derived.RangeFuncCalls
import Derived.RangeFuncLeaves
import Derived.Shelf.Abstract
import Derived.Shelf.RegionOpen
import Derived.WalkKit
import Derived.OwnWalkIn
import Derived.TacticsInMore
import Derived.LoopNIn
import Derived.LoopIn
import Derived.Lib.Hide
namespace Go.Proofs.YtlmkiekdkonofaaDoor
open Go.RowKit Go.Shelf
attribute [local go_sem] Oper.semAt_some

theorem Tab.below {w W : World} (h : Tab w) (hb : Below w.heap.size w W) : Tab W := fun i hi => by
  obtain ⟨q, hq, a, b⟩ := h i hi
  have h1 : 1 < w.heap.size := by
    simp only [World.cell?] at hq
    rcases Nat.lt_or_ge 1 w.heap.size with h' | h'
    · exact h'
    · simp [Array.getElem?_eq_none h'] at hq
  exact ⟨q, (hb.cell (p := ⟨1, i, none⟩) h1).trans hq, a, b⟩

theorem Tab.lt {w : World} (h : Tab w) : 1 < w.heap.size := by
  obtain ⟨q, hq, _, _⟩ := h 0 (by omega)
  simp only [World.cell?] at hq
  rcases Nat.lt_or_ge 1 w.heap.size with h' | h'
  · exact h'
  · simp [Array.getElem?_eq_none h'] at hq

theorem Tab.belowN {n : Nat} {w W : World} (h : Tab w) (hn : 1 < n) (hb : Below n w W) : Tab W := fun i hi => by
  obtain ⟨q, hq, a, b⟩ := h i hi
  exact ⟨q, (hb.cell (p := ⟨1, i, none⟩) hn).trans hq, a, b⟩

def nxt (s : Nat) : Nat := s &&& (s - 1)
theorem nxt_bits (s : Nat) (h0 : 0 < s) (h1 : s < 8) : bits BinOp.and IntKind.u64 s (IntKind.u64.wrap (s - 1)) = (nxt s : Nat) ∧ bits BinOp.and IntKind.u64 s ((s : Int) - 1) = (nxt s : Nat) ∧ cnt (nxt s) + 1 = cnt s ∧ nxt s < s := by
  have h : s = 1 ∨ s = 2 ∨ s = 3 ∨ s = 4 ∨ s = 5 ∨ s = 6 ∨ s = 7 := by omega
  rcases h with rfl | rfl | rfl | rfl | rfl | rfl | rfl <;> exact ⟨rfl, rfl, rfl, by decide⟩

theorem tz56_ex (s : Nat) (w : World) (h0 : 0 < s) (h1 : s < 8) (hT : Tab w) : ∃ q : Int, Calls Tryd.prog 56 #[.int .u64 s] w fun e w' => e = .returned (.int .i64 q) ∧ w = w' := by
  obtain ⟨q, hq⟩ := tz_ex s w h0 h1 hT
  have HQ := Lib.hid hq
  clear hq
  refine ⟨q, ?_⟩
  go_enter Tryd.func56, Tryd.ntmps56
  go_wp2_with (first | (go_at_call 61; refine (HQ.out).mono ?_; rintro e w' ⟨rfl, rfl⟩) | go_in)
  go_ret
  exact ⟨rfl, rfl⟩

set_option maxRecDepth 100000 in
set_option maxHeartbeats 1000000 in
theorem all1_in (l Bn n₀ s : Nat) (hs : s < 8) (J Jx : List Int → World → Prop)
    (hY : ∀ pre x W, J pre W → pre.length < cnt s → YieldAt Fence.wide (5 - 1) Tryd.prog l #[.int .i64 x] W fun e W' =>
      (e = .returned (.bool true) ∧ J (pre ++ [x]) W' ∧ Below n₀ W W') ∨ (e = .returned (.bool false) ∧ Jx (pre ++ [x]) W'))
    (W : World) (hBn : W.cell? ⟨Bn, 0, none⟩ = some (.int .u64 s)) (hT : Tab W) (hn : 1 < n₀) (h0 : J [] W) :
    CallsIn Fence.wide 5 Tryd.prog 55 #[.func (.yield l) #[] #[], .pointer (some ⟨Bn, 0, none⟩)] W fun e W' => (∃ v, e = .returned v) ∧
      ((∃ ys : List Int, ys.length = cnt s ∧ J ys W') ∨ (∃ pre : List Int, True ∧ Jx pre W')) := by
  refine callsIn_of_wp Tryd.func55 rfl trivial ?_ rfl
  simp only [Tryd.ntmps55, List.size_toArray, List.length_cons, List.length_nil, Nat.reduceAdd, Nat.reduceSub, Array.replicate_succ, Array.replicate_zero, List.push_toArray, List.append_toArray, List.nil_append, List.cons_append]
  gi_wp2
  gi_loopw [3] (fun p wr => ∃ (pre : List Int) (t : Nat), p = .int .u64 t ∧ t < 8 ∧ cnt t + pre.length = cnt s ∧ Tab wr ∧ J pre wr)
    (fun p _ => (intOf p).toNat)
  case atStart =>
    exact ⟨[], s, rfl, hs, by simp, hT, h0⟩
  case round =>
    obtain ⟨pre, t, rfl, ht, hc, hTr, hJs⟩ := hrel
    by_cases h0 : t = 0
    · subst h0
      gi_wp2
      go_end0
      exact ⟨⟨_, rfl⟩, .inl ⟨pre, by simpa [cnt] using hc, hJs⟩⟩
    · have hz : ((t : Int) != 0) = true := by simp; omega
      have hz' : ((t : Int) == 0) = false := by simp; omega
      obtain ⟨q, hq⟩ := tz56_ex t wr (by omega) ht hTr
      have hnx := nxt_bits t (by omega) ht
      have hnm := hnx.1
      have hnm' := hnx.2.1
      obtain ⟨fn, tmps, assign, body, hy, hR⟩ := hY pre q wr hJs (by omega)
      have HX := Lib.hid hnx
      have HQ := Lib.hid hq
      have HC := Lib.hid hc
      have HZ := Lib.hid h0
      clear hq hnx hc h0
      gi_wp2_with (refine ⟨trivial, ?_⟩; gi_at_call 56; refine (callsIn_wide.2 HQ.out).mono ?_; rintro e w' ⟨rfl, rfl⟩)
      refine hR.mono ?_
      rintro e W3 (⟨rfl, hJ3, hk3⟩ | ⟨rfl, hJx3⟩)
      · gi_wp2
        go_roundw
        case rel => exact ⟨pre ++ [q], nxt t, rfl, by have := HX.out; omega, by have := HX.out; have := HC.out; simp; omega, hTr.belowN hn hk3, hJ3⟩
        case measure => simp [intOf]; have := HX.out; omega
      · gi_wp2
        refine bodyPost_ret (results_none rfl _ _ _) rfl ?_
        exact ⟨⟨_, rfl⟩, .inr ⟨pre ++ [q], trivial, hJx3⟩⟩

theorem all_stops (s : Nat) (hs : s < 8) (Bn n₀ : Nat) (w : World) (hBn : Bn < w.heap.size) (hc : w.cell? ⟨Bn, 0, none⟩ = some (.int .u64 s)) (hT : Tab w) (hn : 1 < n₀) :
    SeqStopsK Fence.wide 5 Tryd.prog 55 #[.pointer (some ⟨Bn, 0, none⟩)] (fun x : Int => #[Value.int .i64 x]) (Below n₀) (fun ys => ys.length = cnt s) (fun _ => True) (cnt s) w := fun l J Jx W hW _ _ hY h0 =>
  all1_in l Bn n₀ s hs J Jx hY W ((hW.cell (p := ⟨Bn, 0, none⟩) hBn).trans hc) (hT.below hW) hn h0

set_option maxHeartbeats 400000 in
theorem all_in (s : Nat) (w : World) : CallsIn Fence.wide 5 Tryd.prog 51 #[.int .u64 s] w fun e w' => e = .returned (.func (.func 55) #[] #[.pointer (some ⟨w.heap.size, 0, none⟩)]) ∧ w' = w.alloc (.cells #[.int .u64 s] 79) := by
  refine callsIn_of_wp Tryd.func51 rfl trivial ?_ rfl
  simp only [Tryd.ntmps51, List.size_toArray, List.length_cons, List.length_nil, Nat.reduceAdd, Nat.reduceSub, Array.replicate_succ, Array.replicate_zero, List.push_toArray, List.append_toArray, List.nil_append, List.cons_append]
  gi_wp2
  go_ret
  exact ⟨rfl, rfl⟩

theorem cell_new_l (W : World) (v : Value) (t : TypeId) : (W.alloc (.cells #[v] t)).cell? ⟨W.heap.size, 0, none⟩ = some v ∧ (W.alloc (.cells #[v] t)).frozen? ⟨W.heap.size, 0, none⟩ = false :=
  ⟨cell_of_one (heap_alloc_new W _), free_of_one (heap_alloc_new W _)⟩

theorem cell_alloc_l {W : World} {a : Addr} {v : Value} (o : Obj) (h : W.cell? a = some v) : (W.alloc o).cell? a = some v := cell_kept h (World.grownBy_alloc W o none) (fun r e => by cases e)
theorem frozen_alloc_l {W : World} {a : Addr} {v : Value} (o : Obj) (h : W.cell? a = some v) (hf : W.frozen? a = false) : (W.alloc o).frozen? a = false := (frozen_kept h (World.grownBy_alloc W o none) (fun r e => by cases e)).trans hf

set_option maxRecDepth 100000 in
set_option maxHeartbeats 2000000 in
theorem enough_in (s : Nat) (hs : s < 8) (w : World) (hT : Tab w) :
    CallsIn Fence.wide 6 Tryd.prog 46 #[.int .u64 s] w fun e W' => e = .returned (.bool (decide (2 ≤ cnt s))) ∧ Below w.heap.size w W' := by
  refine callsIn_of_wp_marks Tryd.func46 rfl trivial ?_ rfl
  simp only [Tryd.ntmps46, List.size_toArray, List.length_cons, List.length_nil, Nat.reduceAdd, Nat.reduceSub, Array.replicate_succ, Array.replicate_zero, List.push_toArray, List.append_toArray, List.nil_append, List.cons_append]
  have hlt := hT.lt
  gi_wp2_with (refine ⟨trivial, ?_⟩; gi_at_call 51; refine (all_in _ _).mono ?_; rintro e w' ⟨rfl, rfl⟩)
  have hs0 := cell_new_l w (.int .i64 0) 3
  have hb := cell_new_l (w.alloc (.cells #[.int .i64 0] 3)) (.int .u64 s) 79
  rw [World.size_alloc] at hb
  have hB0 : Below w.heap.size w ((w.alloc (.cells #[.int .i64 0] 3)).alloc (.cells #[.int .u64 s] 79)) := ((Below.refl _ w).alloc (Nat.le_refl _) _).alloc (by simp) _
  have hc8 : cnt s ≤ 8 := by unfold cnt; omega
  refine wpIn_rangeFunc_ownF rfl (by decide) (gf := 55) (lb := #[.pointer (some ⟨w.heap.size + 1, 0, none⟩)]) rfl trivial (enters_of Tryd.func55 (by kernel_rfl) rfl)
    (all_stops s hs (w.heap.size + 1) w.heap.size _ (by simp) hb.1 (hT.below hB0) hlt) belowK_t (belowK_b (by simp; omega)) (Below.refl _ _) (fun _ => rfl)
    (fun pre W => (W.cell? ⟨w.heap.size, 0, none⟩ = some (.int .i64 (pre.length : Nat)) ∧ W.frozen? ⟨w.heap.size, 0, none⟩ = false) ∧ Below w.heap.size w W)
    (fun _ _ _ => False)
    (OwnFrom.and (Own.from (fun s A B row hs hg hr => ⟨cell_kept hs.1 hg hr, (frozen_kept hs.1 hg hr).trans hs.2⟩) _) (ownFrom_below (Nat.le_refl _) (by simp; omega)))
    (fun _ _ _ _ _ hs _ _ => hs)
    ⟨⟨cell_alloc_l _ hs0.1, frozen_alloc_l _ hs0.1 hs0.2⟩, hB0⟩
    (fun x => { tmps := #[.int .u64 s, undef, .bool false, .pointer (some ⟨w.heap.size, 0, none⟩), .int .u64 s, .func (.func 55) #[] #[.pointer (some ⟨w.heap.size + 1, 0, none⟩)], .int .i64 x, undef, undef, undef, undef], defers := [] }) ?assign ?body ?done ?stop
  case assign =>
    intro l x W K hK
    gi_wp2
    simpa using hK
  case body =>
    rintro l pre x W ⟨⟨hc, hf⟩, hB⟩ hlen
    have hbd : (pre.length : Int) + 1 ≤ 100 := by omega
    gi_wp2
    exact ⟨KeepsOthers.setCell _ _ _, (Below.refl w.heap.size W).setCell (p := ⟨w.heap.size, 0, none⟩) (Nat.le_refl _) _, ⟨by simpa using World.cell?_setCell_same' W ⟨w.heap.size, 0, none⟩ _ (by rw [hc]; rfl), by rw [World.frozen?_setCell]; exact hf⟩, hB.setCell (p := ⟨w.heap.size, 0, none⟩) (Nat.le_refl _) _⟩
  case done =>
    rintro D ys W hD hlen ⟨⟨hc, _⟩, hB⟩ hK
    gi_wp2
    refine ⟨by simp, .inl ⟨_, _, rfl, run_takeDeferred hK, ?_⟩⟩
    exact ⟨_, results_tmp rfl _ _ _, by rw [← hlen]; simp; omega, hB.trans (belowK_b (w := w) (Nat.le_refl _) W D _ _ (by simp at hD; omega) hK rfl rfl)⟩
  case stop =>
    rintro D c pre W _ _ h _
    exact h.elim

theorem enough_any (s : Nat) (hs : s < 8) (w : World) (hT : Tab w) :
    Calls Tryd.prog 46 #[.int .u64 s] w fun e W' => e = .returned (.bool (decide (2 ≤ cnt s))) ∧ Below w.heap.size w W' := callsIn_wide.1 (enough_in s hs w hT)

end Go.Proofs.YtlmkiekdkonofaaDoor
