/-
  works: the chapter's session.
-/
import Derived.Test.YtlmkiekdkonofaaDoorSt
import Derived.Test.YtlmkiekdkonofaaDoorSu
import Derived.Test.YtlmkiekdkonofaaDoorSo
import Derived.Test.YtlmkiekdkonofaaDoorSq
import Derived.Test.YtlmkiekdkonofaaDoorSk
namespace Go.Proofs.YtlmkiekdkonofaaDoor
open Go.RowKit Go.Conc

theorem take_of14 {b : Nat} {w : World} {R : World → Ending → World → Prop} (h : ∀ pk, PkA pk (pk.extract 44 82) 21 1 4 → Calls Tryd.prog 13 #[.pointer (some ⟨b, 0, none⟩), .agg pk] w (R w)) (pk : Array Value)
    (h0 : pk.size = 87) (h1 : pk[0]? = some (.int .i64 2)) (h2 : pk[2]? = some (.int .i64 21)) (h3 : (pk.extract 44 82).size = 38) (h4 : (pk.extract 44 82)[0]? = some (.int .i64 1)) (h5 : (pk.extract 44 82)[1]? = some (.int .i64 4)) (h6 : (pk.extract 44 82).all (·.oneCell') = true) :
    Calls Tryd.prog 13 #[.pointer (some ⟨b, 0, none⟩), .agg pk] w (R w) :=
  h pk ⟨h0, h1, h2, h3, fun j hj => by rw [Array.getElem?_extract, if_pos (by omega)], h4, h5, h6⟩

set_option maxHeartbeats 2000000 in
set_option maxRecDepth 100000 in
theorem works20 (w : World) : Calls Tryd.prog 18 #[] w fun e w' => e = .returned (.bool true) ∧ Only [] w w' := by
  go_enter Tryd.func18, Tryd.ntmps18
  go_wp2_with fail
  refine (sess_new 1 5 3 7 w (by omega) (by omega) (by omega) (by omega) (by omega) (by omega) (by omega) (by omega)).mono ?_
  rintro e w1 ⟨b, c, rq0, rfl, S1, hz, C1, hb1, hc1, hbc, O1⟩
  have fr : ∀ x ∈ [b, c], w.heap.size ≤ x := by simp [hb1, hc1]
  go_wp2_with fail
  refine (get_any 1 w1).mono ?_
  rintro e w2 ⟨⟨rqa, rfl, Ra⟩, o⟩
  have S2 := S1.keep o (by simp)
  have C2 := C1.keep o (by simp)
  have O2 : Only [] w w2 := O1.trans o (by simp)
  clear o S1 C1 O1
  go_wp2_with fail
  refine (asks_by b rqa 5 0 w2 (fun w' => ∃ rq, Rq rq 1 5 ∧ SB w' b c { st0 1 5 3 7 with nx := 6, wt := true, nm := 5 } rq ∧ Ch w' c #[.agg rq] ∧ Only [b, c] w2 w') Ra.size (fun W hW => ?_)).mono ?_
  · refine (ask_any b c (st0 1 5 3 7) rq0 rqa W (S2.keep hW (by simp)) hz (C2.keep hW (by simp)) hbc Ra rfl (by show (0 : Int) ≤ 1; decide) (by show (1 : Int) < 3; decide) (by show (1 : Int) ≤ 5; decide) (by show (5 : Int) ≤ 100; decide)).mono ?_
    rintro e w' ⟨rq', rfl, hR', hS', hC', hO'⟩
    exact ⟨rfl, rq', hR', hS', hC', (hW.mono (by simp)).trans hO' (by simp)⟩
  rintro e w3 ⟨rfl, rq, hR, S3, C3, o⟩
  have O3 : Only [] w w3 := ((O2.mono (by simp)).trans o (by simp)).fresh fr
  clear o S2 C2 O2
  have hR1 := hR.one
  have hrz := hR.size
  go_wp2_with fail
  refine (get_any 1 w3).mono ?_
  rintro e w4 ⟨⟨rqb, rfl, Rb⟩, o⟩
  have S4 := S3.keep o (by simp)
  have C4 := C3.keep o (by simp)
  have O4 : Only [] w w4 := O3.trans o (by simp)
  clear o S3 C3 O3
  go_wp2_with fail
  refine (asks_by b rqb 0 170 w4 (fun w' => Only [] w4 w') Rb.size (fun W hW => ?_)).mono ?_
  · refine (ask_busy b c _ rq rqb W (S4.keep hW (by simp)) hrz Rb rfl).mono ?_
    rintro e w' ⟨rfl, ho⟩
    exact ⟨rfl, hW.trans ho (by simp)⟩
  rintro e w5 ⟨rfl, o⟩
  have S5 := S4.keep o (by simp)
  have C5 := C4.keep o (by simp)
  have O5 : Only [] w w5 := O4.trans o (by simp)
  clear o S4 C4 O4
  go_wp2_with fail
  refine (tick_masters b c _ rq w5 S5 hrz rfl _ C5 hbc rfl (by decide) (by decide) (by decide) (by decide) (by decide) (by decide) (by decide) (.inr ⟨by decide, rfl⟩)).mono ?_
  rintro e w6 ⟨g, cap, rfl, p0, p1, p2, S6, C6, o⟩
  have O6 : Only [] w w6 := ((O5.mono (by simp)).trans o (by simp)).fresh fr
  clear o S5 C5 O5
  replace S6 : SB w6 b c ⟨1, 6, 3, 7, 0, 0, .slice none 0 0, true, false, 1, 5⟩ rq := S6
  go_wp2_with fail
  refine (sends_asks g cap w6 p0 p1 p2).mono ?_
  rintro e w' ⟨rfl, rfl⟩
  clear p0 p1 p2
  go_wp2_with fail
  refine (tick_masters b c _ rq w6 S6 hrz rfl _ C6 hbc rfl (by decide) (by decide) (by decide) (by decide) (by decide) (by decide) (by decide) (.inr ⟨by decide, rfl⟩)).mono ?_
  rintro e w7 ⟨g1, cap1, rfl, p0, p1, p2, S7, C7, o⟩
  have O7 : Only [] w w7 := ((O6.mono (by simp)).trans o (by simp)).fresh fr
  clear o S6 C6 O6
  replace S7 : SB w7 b c ⟨1, 6, 3, 7, 0, 0, .slice none 0 0, true, false, 2, 5⟩ rq := S7
  go_wp2_with fail
  refine (sends_asks g1 cap1 w7 p0 p1 p2).mono ?_
  rintro e w' ⟨rfl, rfl⟩
  clear p0 p1 p2
  go_wp2_with fail
  refine (tick_masters b c _ rq w7 S7 hrz rfl _ C7 hbc rfl (by decide) (by decide) (by decide) (by decide) (by decide) (by decide) (by decide) (.inl (by decide))).mono ?_
  rintro e w8 ⟨g2, cap2, rfl, p0, p1, p2, S8, C8, o⟩
  have O8 : Only [] w w8 := ((O7.mono (by simp)).trans o (by simp)).fresh fr
  clear o S7 C7 O7
  replace S8 : SB w8 b c ⟨1, 6, 3, 7, 0, 0, .slice none 0 0, true, false, 3, 5⟩ rq := S8
  go_wp2_with fail
  refine (sends_asks g2 cap2 w8 p0 p1 p2).mono ?_
  rintro e w' ⟨rfl, rfl⟩
  clear p0 p1 p2
  go_wp2_with fail
  obtain ⟨w9, hw9⟩ : ∃ w9, w9 = w8.alloc (Obj.cells #[Value.int IntKind.i64 11, Value.int IntKind.i64 10] 3) := ⟨_, rfl⟩
  rw [← hw9]
  have I9 : Ints w9 (.slice (some ⟨w8.heap.size, 0, none⟩) 2 2) [11, 10] := ⟨w8.heap.size, 2, _, rfl, by rw [hw9]; exact heap_alloc_new w8 _, by decide, by decide, rfl, rfl⟩
  have o9 : Only [] w8 w9 := by rw [hw9]; exact (Only.refl [] w8).alloc _
  clear hw9
  refine (conf20 21 2 w8.heap.size 2 2 w9).mono ?_
  rintro e w10 ⟨⟨pk, rfl, hP⟩, o⟩
  have o10 : Only [] w8 w10 := o9.trans o (by simp)
  have I10 := I9.keep0 o
  have S10 := S8.keep o10 (by simp)
  have C10 := C8.keep o10 (by simp)
  have O10 : Only [] w w10 := O8.trans o10 (by simp)
  clear o S8 C8 O8 o9 o10 I9
  go_wp2_with fail
  refine (take_new b c _ rq pk _ 2 11 10 _ w10 S10 hR hP I10 (by decide) (by decide) (.inl (by decide)) rfl C10 (.inr rfl) hbc).mono ?_
  rintro e w11 ⟨ans, v, rfl, _, _, I11, S11, C11, o⟩
  have O11 : Only [] w w11 := ((O10.mono (by simp)).trans o (by simp)).fresh fr
  clear o S10 C10 O10 I10 hP
  replace S11 : SB w11 b c ⟨1, 6, 3, 7, 2, 1, v, true, false, 3, 5⟩ rq := S11
  go_wp2_with fail
  refine (tick1 b c _ rq 11 10 w11 S11 hrz I11 C11 hbc hR1 (by dsimp only; omega) (by dsimp only; omega) rfl (by dsimp only; omega) (by dsimp only; omega) (by dsimp only; omega) (by dsimp only; omega) (by dsimp only; omega) (by dsimp only; omega)).mono ?_
  rintro e w12 ⟨g3, cap3, rfl, p0, S12, C12, o⟩
  have I12 : Ints w12 v [11, 10] := I11.keep o (by
    have h1 : w11.heap[b]? = some (.cells (sv _ rq c) 94 (0, 0)) := S11
    obtain ⟨_, _, h2⟩ := C11
    simp [h1, h2])
  have O12 : Only [] w w12 := ((O11.mono (by simp)).trans o (by simp)).fresh fr
  clear o S11 C11 O11 I11
  replace S12 : SB w12 b c ⟨1, 6, 3, 7, 2, 1, v, true, false, 4, 5⟩ rq := S12
  go_wp2_with fail
  refine (sends_one g3 cap3 11 w12 p0 (by omega) (by omega)).mono ?_
  rintro e w' ⟨rfl, rfl⟩
  clear p0
  go_wp2_with fail
  refine (tick0 b c _ rq 11 10 w12 S12 hrz I12 C12 hbc rfl (by dsimp only; omega) (by dsimp only; omega) (by dsimp only; omega) (by dsimp only; omega) (by dsimp only; omega) (by dsimp only; omega)).mono ?_
  rintro e w13 ⟨rfl, S13, C13, o⟩
  have I13 : Ints w13 v [11, 10] := I12.keep o (by
    have h1 : w12.heap[b]? = some (.cells (sv _ rq c) 94 (0, 0)) := S12
    obtain ⟨_, _, h2⟩ := C12
    simp [h1, h2])
  have O13 : Only [] w w13 := ((O12.mono (by simp)).trans o (by simp)).fresh fr
  clear o S12 C12 O12 I12
  replace S13 : SB w13 b c ⟨1, 6, 3, 7, 2, 1, v, true, false, 5, 5⟩ rq := S13
  go_wp2_with fail
  refine (sends_none w13).mono ?_
  rintro e w' ⟨rfl, rfl⟩
  go_wp2_with fail
  refine (tick4 b c _ rq 5 11 10 w13 S13 hR (by dsimp only; omega) (by dsimp only; omega) I13 C13 hbc rfl (by dsimp only; omega) (by dsimp only; omega) (by dsimp only; omega) (by dsimp only; omega) (by dsimp only; omega) (by dsimp only; omega)).mono ?_
  rintro e w14 ⟨g4, cap4, rfl, p0, p1, p2, p3, S14, C14, o⟩
  have I14 : Ints w14 v [11, 10] := I13.keep o (by
    have h1 : w13.heap[b]? = some (.cells (sv _ rq c) 94 (0, 0)) := S13
    obtain ⟨_, _, h2⟩ := C13
    simp [h1, h2])
  have O14 : Only [] w w14 := ((O13.mono (by simp)).trans o (by simp)).fresh fr
  clear o S13 C13 O13 I13
  replace S14 : SB w14 b c ⟨1, 6, 3, 7, 2, 1, v, true, false, 6, 5⟩ rq := S14
  go_wp2_with fail
  refine (sends_four g4 cap4 11 w14 p0 p1 p2 p3 (by omega) (by omega)).mono ?_
  rintro e w' ⟨rfl, rfl⟩
  clear p0 p1 p2 p3
  go_wp2_with fail
  refine (take_of14 (fun pk hP => take_ans b c ⟨1, 6, 3, 7, 2, 1, v, true, false, 6, 5⟩ rq pk _ 4 w14 S14 hrz hP (by dsimp only; omega) (by dsimp only; omega) rfl (by dsimp only; omega)) _ ?_ ?_ ?_ ?_ ?_ ?_ ?_).mono ?_
  · kernel_rfl
  · kernel_rfl
  · kernel_rfl
  · kernel_rfl
  · kernel_rfl
  · kernel_rfl
  · kernel_rfl
  rintro e w15 ⟨ans', rfl, hs15, h115, o⟩
  have S15 := S14.keep o (by simp)
  have C15 := C14.keep o (by simp)
  have I15 := I14.keep0 o
  have O15 : Only [] w w15 := O14.trans o (by simp)
  clear o S14 C14 O14 I14
  go_wp2_with (with_reducible refine halt_st 54 ?_)
  unfold Halted
  refine wp_st_new (ty := 54) rfl rfl (by rw [hs15]; rfl) (by rw [info54, hs15]) h115 (fun w16 _ o _ K hK => ?_)
  simp only [Act.put]
  refine hK _ _ ?_
  clear hK K
  have S16 := S15.keep o (by simp)
  have C16 := C15.keep o (by simp)
  have I16 := I15.keep0 o
  have O16 : Only [] w w16 := O15.trans o (by simp)
  clear o S15 C15 O15 I15
  go_wp2_with fail
  refine (tick0 b c _ rq 11 10 w16 S16 hrz I16 C16 hbc rfl (by dsimp only; omega) (by dsimp only; omega) (by dsimp only; omega) (by dsimp only; omega) (by dsimp only; omega) (by dsimp only; omega)).mono ?_
  rintro e w17 ⟨rfl, S17, C17, o⟩
  have O17 : Only [] w w17 := ((O16.mono (by simp)).trans o (by simp)).fresh fr
  clear o S16 C16 O16 I16
  replace S17 : SB w17 b c ⟨1, 6, 3, 7, 2, 1, v, true, false, 7, 5⟩ rq := S17
  go_wp2_with fail
  refine (late_any b c _ rq w17 S17 hrz).mono ?_
  rintro e w' ⟨rfl, rfl⟩
  go_wp2_with fail
  refine (waits_any b c _ rq w17 S17 hrz).mono ?_
  rintro e w' ⟨rfl, rfl⟩
  go_wp2_with fail
  refine (tick_late b c _ rq w17 S17 hrz rfl (by dsimp only; omega) (by dsimp only; omega) (by dsimp only; omega)).mono ?_
  rintro e w18 ⟨rfl, S18, o⟩
  have O18 : Only [] w w18 := ((O17.mono (by simp)).trans o (by simp)).fresh fr
  clear o S17 C17 O17
  go_wp2_with fail
  refine (late_any b c _ rq w18 S18 hrz).mono ?_
  rintro e w' ⟨rfl, rfl⟩
  go_wp2_with fail
  refine (waits_any b c _ rq w18 S18 hrz).mono ?_
  rintro e w' ⟨rfl, rfl⟩
  go_wp2_with fail
  go_ret
  exact ⟨rfl, O18⟩
end Go.Proofs.YtlmkiekdkonofaaDoor
