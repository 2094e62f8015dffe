/-
  works: the chapter's leader, step by step.
-/
import Derived.Test.YtlmkiekdkonofaaDoorKa
import Derived.Deep.QuietTactic
import Derived.BigQuiet
namespace Go.Proofs.YtlmkiekdkonofaaDoor
open Go.RowKit
attribute [local go_sem] alloc_drewN setCell_drewN

set_option maxHeartbeats 2000000 in
set_option maxRecDepth 100000 in
theorem eqints_one (a b : Value) (v : Int) (w : World) (ha : Ints w a [v]) (hb : Ints w b [v]) :
    Calls Tryd.prog 47 #[a, b] w fun e w' => e = .returned (.bool true) ∧ Only [] w w' := by
  obtain ⟨g, cap, rfl, _, c0⟩ := ha.one
  obtain ⟨g', cap', rfl, _, c1⟩ := hb.one
  clear ha hb
  go_enter Tryd.func47, Tryd.ntmps47
  go_wp2_with fail
  refine wp_loop_rounds 2 ?_
  rw [rounds_succ]
  go_wp2_with fail
  go_quiet (fail)
  go_wp2_with fail
  rw [rounds_succ]
  go_wp2_with fail
  go_ret
  exact ⟨rfl, (Only.refl _ _).drewN _⟩

set_option maxHeartbeats 2000000 in
set_option maxRecDepth 100000 in
theorem is_any (c : Value) (n v : Int) (w : World) (hc : Conf1 w c n v) :
    Calls Tryd.prog 23 #[c, .int .i64 n, .int .i64 v] w fun e w' => e = .returned (.bool true) ∧ Only [] w w' := by
  obtain ⟨s, rfl, hs⟩ := hc
  obtain ⟨g, cap, rfl, _, _⟩ := hs.one
  have o1 : Only [] w ((w.alloc (.cells #[.int .i64 n, .int .i64 1, .slice (some ⟨g, 0, none⟩) 1 cap] 29)).alloc (.cells #[.int .i64 v] 3)) := ((Only.refl _ _).alloc _).alloc _
  have s2 : Ints ((w.alloc (.cells #[.int .i64 n, .int .i64 1, .slice (some ⟨g, 0, none⟩) 1 cap] 29)).alloc (.cells #[.int .i64 v] 3)) (.slice (some ⟨w.heap.size + 1, 0, none⟩) 1 1) [v] :=
    ⟨w.heap.size + 1, 1, #[.int .i64 v], rfl, (new_two _ _ _).2, by simp, by decide, rfl, rfl⟩
  have HE := Lib.hid (eqints_one _ _ v _ (hs.keep0 o1) s2)
  have O1 := Lib.hid o1
  clear hs o1 s2
  go_enter Tryd.func23, Tryd.ntmps23
  go_wp2_with fail
  refine HE.out.mono ?_
  rintro e w2 ⟨rfl, ho⟩
  have HO := Lib.hid ho
  clear ho
  go_wp2_with fail
  go_ret
  exact ⟨rfl, O1.out.trans HO.out (by simp)⟩

/-- Blocks that were not there do not count. -/
theorem Only.fresh {bs : List Nat} {w w' : World} (h : Only bs w w') (hb : ∀ x, x ∈ bs → w.heap.size ≤ x) : Only [] w w' :=
  ⟨h.os, h.tape, h.output, h.size, fun k hk _ => h.block k hk (fun hm => absurd hk (Nat.not_lt.2 (hb k hm)))⟩

/-- The example's start: three ballots. -/
theorem start_w (L : Nat) (a f bal frm ph b : Int) (pm : Nat) (mp : Option Nat) (pd : Option Addr) (sd : Nat) (w : World) (hL : LB w L 1 bal frm ph pm mp pd sd) (ha0 : 0 ≤ a) (ha1 : a ≤ 10) (hf0 : 1 ≤ f) (hf1 : f ≤ 10) (hb0 : 0 ≤ bal) (hb1 : bal ≤ 10) (hb : nextB 1 (max a bal) = b) :
    Calls Tryd.prog 19 #[.pointer (some ⟨L, 0, none⟩), .int .i64 a, .int .i64 f] w fun e w' => e = .returned (.tuple #[.int .i64 b, .int .i64 0]) ∧ LB w' L 1 b f 1 0 (some w.heap.size) none 0 ∧ w'.heap[w.heap.size]? = some (.map #[] 0) ∧ Only [L] w w' := by
  have := start_any L a f 1 bal frm ph pm mp pd sd w hL ha0 (by omega) hf0 (by omega) (by omega) (by omega) hb0 (by omega)
  rw [hb] at this
  exact this

set_option maxHeartbeats 8000000 in
set_option maxRecDepth 100000 in
theorem works_any (w : World) (hT : Tab w) : Calls Tryd.prog 5 #[] w fun e w' => e = .returned (.bool true) ∧ Only [] w w' := by
  have HT := Lib.hid hT
  have hlt := hT.lt
  have hL1 : w.heap.size ≠ 1 := by omega
  have HL1' := Lib.hid hL1
  clear hT hL1
  go_enter Tryd.func5, Tryd.ntmps5
  go_wp2_with fail
  refine (new_any 1 _ (by omega) (by omega)).mono ?_
  rintro e w1 ⟨rfl, hl, ho⟩
  have HL1 := Lib.hid hl
  have O1 := Lib.hid ho
  clear hl ho
  go_wp2_with fail
  refine (start_w w.heap.size 0 1 0 0 0 1 0 none none 0 w1 HL1.out (by omega) (by omega) (by omega) (by omega) (by omega) (by omega) (by decide)).mono ?_
  rintro e w2 ⟨rfl, hl, hm, ho⟩
  have HL2 := Lib.hid hl
  have O2 := Lib.hid ((O1.out.mono (bs' := [w.heap.size]) (by simp)).trans ho (fun x hx => .inl hx))
  clear hl hm ho HL1 O1
  go_wp2_with fail
  refine (start_w w.heap.size 0 1 1 1 1 4 0 _ none 0 w2 HL2.out (by omega) (by omega) (by omega) (by omega) (by omega) (by omega) (by decide)).mono ?_
  rintro e w3 ⟨rfl, hl, hm, ho⟩
  have HL3 := Lib.hid hl
  have O3 := Lib.hid (O2.out.trans ho (fun x hx => .inl hx))
  clear hl hm ho HL2 O2
  go_wp2_with fail
  refine (start_w w.heap.size 7 2 4 1 1 10 0 _ none 0 w3 HL3.out (by omega) (by omega) (by omega) (by omega) (by omega) (by omega) (by decide)).mono ?_
  rintro e w4 ⟨rfl, hl, hm, ho⟩
  obtain ⟨M, hM⟩ : ∃ M, M = w3.heap.size := ⟨_, rfl⟩
  rw [← hM] at hl hm
  have hMs : w.heap.size ≤ M := by have := O3.out.size; omega
  have hLs : w.heap.size < M := by have := hp_lt HL3.out; omega
  have HL4 := Lib.hid hl
  have HM4 := Lib.hid hm
  have O4 := Lib.hid (O3.out.trans ho (fun x hx => .inl hx))
  have f4 := hl.facts
  have hph := phase_any w.heap.size 1 w4 f4.2.2.2.2.2.2.2.2.2.2 f4.2.2.2.2.2.1
  have HP := Lib.hid hph
  clear hl hm ho HL3 O3 f4 hph hM
  go_wp2_with fail
  refine HP.out.mono ?_
  rintro e w5 ⟨rfl, rfl⟩
  clear HP
  have T4 := Lib.hid (HT.out.keep O4.out (by simp; exact HL1'.out.symm))
  go_wp2_with fail
  refine (promise_nil w.heap.size 1 1 10 2 0 0 (some M) none w4 HL4.out T4.out HL1'.out (by decide) (by decide)).mono ?_
  rintro e w5 ⟨rfl, hl, ho⟩
  have HL5 : Hid (LB w5 w.heap.size 1 10 2 1 2 (some M) none 0) := Lib.hid hl
  have HM5 := Lib.hid (ho.get HM4.out (by simp; omega))
  have T5 := Lib.hid (T4.out.keep ho (by simp; exact HL1'.out.symm))
  have O5 := Lib.hid (O4.out.trans ho (fun x hx => .inl hx))
  clear hl ho HL4 HM4 T4 O4
  go_wp2_with fail
  refine (conf_any 2 11 _).mono ?_
  rintro e w6 ⟨c, rfl, ⟨s, rfl, hs⟩, ho⟩
  obtain ⟨g, cap, rfl, _, _⟩ := hs.one
  have HL6 := Lib.hid (show LB w6 w.heap.size 1 10 2 1 2 (some M) none 0 from ho.get0 HL5.out)
  have HM6 := Lib.hid (ho.get0 HM5.out)
  have T6 := Lib.hid (T5.out.keep ho (by simp))
  have O6 := Lib.hid (O5.out.trans ho (by simp))
  have HS := Lib.hid hs
  clear ho HL5 HM5 T5 O5 hs
  go_wp2_with fail
  obtain ⟨W, hW⟩ : ∃ W, W = w6.alloc (.cells #[.int .i64 3, .int .i64 2, .int .i64 1, .slice (some ⟨g, 0, none⟩) 1 cap] 31) := ⟨_, rfl⟩
  rw [← hW]
  have oW : Only [] w6 W := by rw [hW]; exact (Only.refl _ _).alloc _
  have bW : W.heap[w6.heap.size]? = some (.cells #[.int .i64 3, .int .i64 2, .int .i64 1, .slice (some ⟨g, 0, none⟩) 1 cap] 31) := by rw [hW]; exact heap_alloc_new _ _
  obtain ⟨lV, _, d0, d1, d2, d3⟩ := blk4 bW
  have hPr := Lib.hid (promiseA w.heap.size M w6.heap.size 2 1 1 10 2 2 3 11 (.slice (some ⟨g, 0, none⟩) 1 cap) 2 0 none W (oW.get0 HL6.out) (T6.out.keep oW (by simp)) HL1'.out (by omega) (by omega) (by decide) (by decide) ⟨d0, d1, d2, d3, lV⟩ (HS.out.keep0 oW) (by omega) (by omega) (by omega) ⟨0, oW.get0 HM6.out⟩)
  have O7 := Lib.hid (O6.out.trans oW (by simp))
  clear hW oW bW lV d0 d1 d2 d3 HL6 HM6 T6 O6 HS
  refine hPr.out.mono ?_
  rintro e w8 ⟨rfl, hl, hm, ho⟩
  clear hPr
  have HL8 : Hid (LB w8 w.heap.size 1 10 2 2 6 (some M) none 0) := Lib.hid hl
  have HM8 := Lib.hid hm
  have O8 := Lib.hid ((O7.out.mono (bs' := [w.heap.size, M]) (by simp)).trans ho (fun x hx => .inl hx))
  clear hl hm ho O7
  go_wp2_with fail
  refine (conf_any 2 12 _).mono ?_
  rintro e w9 ⟨c, rfl, hc, ho⟩
  have HL9 := Lib.hid (show LB w9 w.heap.size 1 10 2 2 6 (some M) none 0 from ho.get0 HL8.out)
  have HM9 : Hid (MB1 w9 M 2 3 11) := Lib.hid (by obtain ⟨s, b, k, hk, hs⟩ := HM8.out; exact ⟨s, b, k, ho.get0 hk, hs.keep0 ho⟩)
  have O9 := Lib.hid (O8.out.trans ho (by simp))
  have HC9 := Lib.hid hc
  obtain ⟨s, rfl, hs⟩ := hc
  obtain ⟨g1, cap1, rfl, _, _⟩ := hs.one
  clear ho hs HL8 HM8 O8
  go_wp2_with fail
  refine (propose1 w.heap.size M 2 3 12 11 1 10 2 6 0 _ w9 HL9.out HM9.out (by omega) HC9.out).mono ?_
  rintro e w10 ⟨c, Pb, cs, rfl, hc, hl, hP, hcs, hPs, ho⟩
  have HCP := Lib.hid hc
  obtain ⟨s, rfl, hs⟩ := hc
  obtain ⟨g2, cap2, rfl, _, _⟩ := hs.one
  have hP0 : w10.cell? ⟨Pb, 0, none⟩ = some (.int .i64 2) := by
    obtain ⟨s', e, _⟩ := hcs
    simp only [Value.agg.injEq] at e
    subst e
    exact cell_blk hP 0
  have HP0 := Lib.hid hP0
  have hPL : Pb ≠ w.heap.size := by
    have := hp_lt HL9.out
    omega
  have HPL := Lib.hid hPL
  have HL10 := Lib.hid hl
  have O10 := Lib.hid (O9.out.trans ho (by simp))
  clear hl hP hcs hPs ho hs hP0 hPL HL9 HM9 O9 HC9
  go_wp2_with fail
  have oA : Only [] w10 (w10.alloc (.cells #[.int .i64 2, .int .i64 1, .slice (some ⟨g2, 0, none⟩) 1 cap2] 29)) := (Only.refl _ _).alloc _
  have hI := Lib.hid (is_any _ 2 11 _ (HCP.out.mut oA (by simp)))
  have OA := Lib.hid oA
  clear oA
  refine hI.out.mono ?_
  rintro e w11 ⟨rfl, ho⟩
  clear hI
  have HL11 := Lib.hid (show LB w11 w.heap.size 1 10 2 2 6 (some M) (some ⟨Pb, 0, none⟩) 0 from ho.get0 (OA.out.get0 HL10.out))
  have HP11 := Lib.hid (cell_keep ho (cell_keep OA.out HP0.out (by simp)) (by simp))
  have O11 := Lib.hid ((O10.out.trans OA.out (by simp)).trans ho (by simp))
  clear ho HL10 O10 OA HP0 HCP
  go_wp2_with fail
  refine (yes_few w.heap.size Pb 0 1 10 2 2 6 0 (some M) w11 HL11.out HP11.out (by decide) (by decide) (by decide)).mono ?_
  rintro e w12 ⟨rfl, hl, ho⟩
  have HL12 := Lib.hid hl
  have HP12 := Lib.hid (cell_keep ho HP11.out (by simpa using HPL.out))
  have O12 := Lib.hid (O11.out.trans ho (by simp))
  clear hl ho HL11 HP11 O11
  go_wp2_with fail
  refine (yes_few w.heap.size Pb 0 1 10 2 2 6 (orB 0 0) (some M) w12 HL12.out HP12.out (by decide) (by decide) (by decide)).mono ?_
  rintro e w13 ⟨rfl, hl, ho⟩
  have HL13 := Lib.hid hl
  have HP13 := Lib.hid (cell_keep ho HP12.out (by simpa using HPL.out))
  have O13 := Lib.hid (O12.out.trans ho (by simp))
  clear hl ho HL12 HP12 O12
  go_wp2_with fail
  refine (yes_many w.heap.size Pb 1 1 10 2 2 6 (orB (orB 0 0) 0) (some M) w13 HL13.out HP13.out (by decide) (by decide) (by decide) (by omega) (by omega)).mono ?_
  rintro e w14 ⟨rfl, hl, ho⟩
  have HL14 := Lib.hid hl
  have O14 := Lib.hid (O13.out.trans ho (by simp))
  have f4 := hl.facts
  have hFr := Lib.hid (from_any w.heap.size 3 w14 f4.2.2.2.2.2.2.2.2.2.2 f4.2.2.2.2.1)
  clear hl ho HL13 HP13 O13 f4
  go_wp2_with fail
  refine hFr.out.mono ?_
  rintro e w15 ⟨rfl, rfl⟩
  clear hFr
  go_wp2_with fail
  refine (no_not w.heap.size 1 10 3 2 9 6 _ _ _ w14 HL14.out (by omega)).mono ?_
  rintro e w15 ⟨rfl, rfl⟩
  go_wp2_with fail
  refine (no_yes w.heap.size 1 10 3 2 12 6 _ _ _ w14 HL14.out (by omega) (by decide)).mono ?_
  rintro e w15 ⟨rfl, hl, ho⟩
  have O15 := Lib.hid (O14.out.trans ho (by simp))
  have f4 := hl.facts
  have hPh := Lib.hid (phase_any w.heap.size 0 w15 f4.2.2.2.2.2.2.2.2.2.2 f4.2.2.2.2.2.1)
  clear hl ho HL14 O14 f4
  go_wp2_with fail
  refine hPh.out.mono ?_
  rintro e w16 ⟨rfl, rfl⟩
  clear hPh
  go_wp2_with fail
  go_ret
  exact ⟨rfl, O15.out.fresh (by simp; omega)⟩
end Go.Proofs.YtlmkiekdkonofaaDoor
