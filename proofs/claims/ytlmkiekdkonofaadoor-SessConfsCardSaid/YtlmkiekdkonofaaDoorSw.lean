/-
  SessConfs: the walk of the whole function.
-/
import Derived.Test.YtlmkiekdkonofaaDoorSv
import Derived.Test.YtlmkiekdkonofaaDoorSl
namespace Go.Proofs.YtlmkiekdkonofaaDoor
open Go.RowKit Go.Conc

/-- The numbers that came in. -/
def NumsAt (w : World) (a : Option Addr) (n : Nat) : Prop :=
  ∀ i, i < n → ∃ b off x, a = some ⟨b, off, none⟩ ∧ b < w.heap.size ∧ w.cell? ⟨b, off + i, none⟩ = some (.int .i64 x)

theorem bringNQ (n : Int) (hn : n = 30 ∨ n = 4) (a : Int) (w : World) (k : Nat) : Calls Tryd.prog 7 #[.int .i64 a, .int .i64 n] (w.drewN k) fun e w' => e = .returned (.int .i64 (a % n)) ∧ w' = w.drewN k :=
  (bringN n hn a _).mono fun _ _ h => ⟨h.1, h.2.symm⟩

/-- A session of client 2 that waits. -/
def sess2 (cn cf : Int) (ch : Value) (tk : Int) : St := ⟨2, 2, 1000, 100000, cn, cf, ch, true, false, tk, 1⟩

/-- Between two rounds. -/
structure CI (w : World) (b c : Nat) (rq : Array Value) (j : Nat) (kn cn cf : Int) (ch : Value) (tk : Int) (wr : World) : Prop where
  sb : SB wr b c (sess2 cn cf ch tk) rq
  t0 : 0 ≤ tk
  t1 : tk ≤ 2 * j
  low : Below w.heap.size w wr
  st : (kn = -1 ∧ ch = .slice none 0 0 ∧ Ch wr c #[.agg rq]) ∨ (∃ h y, Ints wr ch [h, y] ∧ kn = cn ∧ Ch wr c #[])

theorem CI.keep0 {w : World} {b c : Nat} {rq : Array Value} {j : Nat} {kn cn cf : Int} {ch : Value} {tk : Int} {wr w' : World} (h : CI w b c rq j kn cn cf ch tk wr) (ho : Only [] wr w') : CI w b c rq j kn cn cf ch tk w' :=
  { sb := h.sb.keep ho (by simp), t0 := h.t0, t1 := h.t1, low := h.low.trans (ho.below h.low.size (by simp)), st := by
      rcases h.st with ⟨h1, h2, h3⟩ | ⟨hd, y, h1, h2, h3⟩
      · exact .inl ⟨h1, h2, h3.keep ho (by simp)⟩
      · exact .inr ⟨hd, y, h1.keep0 ho, h2, h3.keep ho (by simp)⟩ }

set_option maxHeartbeats 8000000 in
set_option maxRecDepth 100000 in
theorem confs_any (a : Option Addr) (n cap : Nat) (w : World) (hN : NumsAt w a n) (hn : n ≤ 9223372036854775807) :
    Calls Tryd.prog 4 #[.slice a n cap] w fun e w' => e = .returned (.bool true) ∧ Below w.heap.size w w' := by
  have HR := Lib.hid hN
  have HN := Lib.hid hn
  clear hN hn
  go_enter Tryd.func4, Tryd.ntmps4
  go_wp2_with fail
  refine (begun_any 1000 100000 w (by omega) (by omega) (by omega) (by omega)).mono ?_
  rintro e w1 ⟨b, c, rq, rfl, hR, hS, hC, hb1, hc1, hbc, ho⟩
  have L0 : CI w b c rq 0 (-1) 0 0 (.slice none 0 0) 0 w1 := { sb := hS, t0 := by omega, t1 := by omega, low := ho.below (Nat.le_refl _) (by simp), st := .inl ⟨rfl, rfl, hC⟩ }
  have LL := Lib.hid L0
  have hrz := hR.size
  have fr : ∀ x ∈ [b, c], w.heap.size ≤ x := by simp [hb1, hc1]
  have HB := Lib.hid (And.intro fr hbc)
  clear L0 hS hC ho hb1 hc1 fr
  go_wp2_with fail
  go_loopw [5, 6] (fun k i wr => ∃ (j : Nat) (kn cn cf : Int) (ch : Value) (tk : Int), k = .int .i64 kn ∧ i = .int .i64 j ∧ j ≤ n ∧ j ≤ 40 ∧ CI w b c rq j kn cn cf ch tk wr) (fun _ i _ => n - (intOf i).toNat)
  case atStart => exact ⟨0, _, _, _, _, _, rfl, rfl, by omega, by omega, LL.out⟩
  case round =>
    obtain ⟨j, kn, cn, cf, ch, tk, rfl, rfl, hj, hj40, hci⟩ := hrel
    have LJ := Lib.hid hci
    clear hci LL
    by_cases hjn : j < n
    · by_cases hj4 : j < 40
      · obtain ⟨ab, off, x, rfl, hbl, e0⟩ := HR.out j hjn
        have k0 := (LJ.out.low.cell (p := ⟨ab, off + j, none⟩) hbl).trans e0
        have hjI : (j : Int) < (n : Int) := by omega
        clear e0
        go_wp2_with fail
        go_quiet ((go_at_call 7; exact Calls.quiet_of_same (bringNQ _ (by decide) _ _ _)))
        obtain ⟨nn, hnn⟩ : ∃ nn, nn = x % 30 := ⟨_, rfl⟩
        obtain ⟨hd, hhd⟩ : ∃ hd, hd = 10 + wrap64 (x.tdiv 30) % 4 := ⟨_, rfl⟩
        have hn0 : 0 ≤ nn ∧ nn < 30 := by omega
        have hd0 : 10 ≤ hd := by omega
        have hd1 : hd ≤ 13 := by omega
        rw [← hnn, ← hhd]
        clear hnn hhd k0 hjI
        obtain ⟨W, hW⟩ : ∃ W, W = wr.drewN nq := ⟨_, rfl⟩
        rw [← hW]
        have L1 : CI w b c rq j kn cn cf ch tk W := LJ.out.keep0 (by rw [hW]; exact (Only.refl [] wr).drewN nq)
        have H1 := Lib.hid L1
        have HNN := Lib.hid hn0
        clear hW LJ L1 hn0
        go_wp2_with fail
        refine (conf20 21 99 _ 1 1 _).mono ?_
        rintro e w2 ⟨⟨pk, rfl, hP⟩, o⟩
        have L2 := H1.out.keep0 (((Only.refl [] W).alloc _).trans o (by simp))
        clear o H1
        go_wp2_with fail
        refine (take_stray b c _ rq pk 21 w2 L2.sb hrz hP.size hP.to' (by dsimp only [sess2]; omega) (by dsimp only [sess2]; omega) (by dsimp only [sess2]; omega)).mono ?_
        rintro e w3 ⟨ans, rfl, _, _, o⟩
        have H3 := Lib.hid (L2.keep0 o)
        clear o L2 hP
        go_wp2_with fail
        obtain ⟨w4, hw4⟩ : ∃ w4, w4 = w3.alloc (Obj.cells #[Value.int IntKind.i64 hd, Value.int IntKind.i64 (10 + (hd + 1) % 4)] 3) := ⟨_, rfl⟩
        rw [← hw4]
        have I4 : Ints w4 (.slice (some ⟨w3.heap.size, 0, none⟩) 2 2) [hd, 10 + (hd + 1) % 4] := ⟨w3.heap.size, 2, _, rfl, by rw [hw4]; exact heap_alloc_new w3 _, Nat.le_refl 2, by decide, rfl, rfl⟩
        have o4 : Only [] w3 w4 := by rw [hw4]; exact (Only.refl [] w3).alloc _
        have hy : ∃ y, y = 10 + (hd + 1) % 4 := ⟨_, rfl⟩
        obtain ⟨y, hy⟩ := hy
        rw [← hy] at I4
        clear hw4
        refine (conf20 22 nn w3.heap.size 2 2 w4).mono ?_
        rintro e w5 ⟨⟨pk2, rfl, hP⟩, o⟩
        have L5 := H3.out.keep0 (o4.trans o (by simp))
        have I5 := I4.keep0 o
        clear o o4 I4 H3
        go_wp2_with fail
        by_cases hnw : kn < nn
        · obtain ⟨buf, hcb, hbuf, hnew⟩ : ∃ buf, Ch w5 c buf ∧ (buf = #[] ∨ buf = #[.agg rq]) ∧ (cn < nn ∨ ch = .slice none 0 0) := by
            rcases L5.st with ⟨_, h2, h3⟩ | ⟨_, _, _, h2, h3⟩
            · exact ⟨_, h3, .inr rfl, .inr h2⟩
            · exact ⟨_, h3, .inl rfl, .inl (by omega)⟩
          refine (take_new b c _ rq pk2 buf nn hd y _ w5 L5.sb hR hP I5 (by dsimp only [sess2]; omega) (by dsimp only [sess2]; omega) hnew rfl hcb hbuf HB.out.2).mono ?_
          rintro e w6 ⟨ans2, v, rfl, _, _, I6, S6, C6, o⟩
          have T0 := L5.t0
          have T1 := L5.t1
          have low6 := L5.low.trans (o.below L5.low.size HB.out.1)
          clear o L5 I5 hP hcb hbuf hnew buf
          replace S6 : SB w6 b c (sess2 nn 1 v tk) rq := S6
          go_wp2_with fail
          have hmx : (nn != max kn nn) = false := by simp; omega
          have hcf : Calls Tryd.prog 15 #[.pointer (some ⟨b, 0, none⟩)] w6 (GivesC nn 1 [hd, y] w6) := conf_of b c (sess2 nn 1 v tk) rq hd y w6 S6 hrz I6
          refine hcf.mono ?_
          clear hcf
          rintro e w7 ⟨v2, rfl, I7, o⟩
          obtain ⟨g2, q2, hv2, _, hcell⟩ := I7.cell
          have hv2' : v2 = .slice (some ⟨g2, 0, none⟩) 2 q2 := hv2
          subst hv2'
          have g0 := hcell 0 hd rfl
          have S7 := S6.keep o (by simp)
          have C7 := C6.keep o (by simp)
          have IV7 := I6.keep0 o
          have low7 := low6.trans (o.below low6.size (by simp))
          clear o S6 C6 I6 I7 hcell hv2 low6
          go_wp2_with fail
          obtain ⟨w8, hw8⟩ : ∃ w8, w8 = w7.alloc (Obj.cells #[Value.int IntKind.i64 nn, Value.int IntKind.i64 1, Value.slice (some { block := g2, off := 0 }) 2 q2] 29) := ⟨_, rfl⟩
          rw [← hw8]
          have o8 : Only [] w7 w8 := by rw [hw8]; exact (Only.refl [] w7).alloc _
          have S8 := S7.keep o8 (by simp)
          have C8 := C7.keep o8 (by simp)
          have I8 := IV7.keep0 o8
          have low8 := low7.trans (o8.below low7.size (by simp))
          clear hw8 o8 S7 C7 IV7 low7 g0
          refine (tick1 b c _ rq hd y w8 S8 hrz I8 C8 HB.out.2 hR.one (by dsimp only [sess2]; omega) (by dsimp only [sess2]; omega) rfl (by dsimp only [sess2]; omega) (by dsimp only [sess2]; omega) (by dsimp only [sess2]; omega) (by dsimp only [sess2]; omega) (by dsimp only [sess2]; omega) (by dsimp only [sess2]; omega)).mono ?_
          rintro e w9 ⟨g3, cap3, rfl, p0, S9, C9, o⟩
          have I9 : Ints w9 v [hd, y] := I8.keep o (by
            have h1 : w8.heap[b]? = some (.cells (sv _ rq c) 94 (0, 0)) := S8
            obtain ⟨_, _, h2⟩ := C8
            simp [h1, h2])
          have low9 := low8.trans (o.below low8.size HB.out.1)
          replace S9 : SB w9 b c (sess2 nn 1 v (tk + 1)) rq := S9
          clear o S8 C8 I8 low8
          go_wp2_with fail
          refine (sends_one g3 cap3 hd w9 p0 (by omega) (by omega)).mono ?_
          rintro e w' ⟨rfl, rfl⟩
          clear p0
          go_wp2_with fail
          refine (tick0 b c _ rq hd y w9 S9 hrz I9 C9 HB.out.2 rfl (by dsimp only [sess2]; omega) (by dsimp only [sess2]; omega) (by dsimp only [sess2]; omega) (by dsimp only [sess2]; omega) (by dsimp only [sess2]; omega) (by dsimp only [sess2]; omega)).mono ?_
          rintro e w10 ⟨rfl, S10, C10, o⟩
          have I10 : Ints w10 v [hd, y] := I9.keep o (by
            have h1 : w9.heap[b]? = some (.cells (sv _ rq c) 94 (0, 0)) := S9
            obtain ⟨_, _, h2⟩ := C9
            simp [h1, h2])
          have low10 := low9.trans (o.below low9.size HB.out.1)
          replace S10 : SB w10 b c (sess2 nn 1 v (tk + 1 + 1)) rq := S10
          clear o S9 C9 I9 low9
          go_wp2_with fail
          refine (sends_none w10).mono ?_
          rintro e w' ⟨rfl, rfl⟩
          have L10 : CI w b c rq (j + 1) (max kn nn) nn 1 v (tk + 1 + 1) w10 := { sb := S10, t0 := by omega, t1 := by omega, low := low10, st := .inr ⟨hd, y, I10, by omega, C10⟩ }
          have H10 := Lib.hid L10
          clear S10 C10 I10 low10 T0 T1 L10
          go_wp2_with fail
          go_roundw
          case rel => exact ⟨j + 1, _, _, _, _, _, rfl, by go_num, by omega, by omega, H10.out⟩
          case measure => simp [intOf]; omega
        · obtain ⟨h0, y0, IV5, hkn, C5⟩ : ∃ h0 y0, Ints w5 ch [h0, y0] ∧ kn = cn ∧ Ch w5 c #[] := by
            rcases L5.st with ⟨h1, _, _⟩ | h2
            · have := HNN.out; omega
            · exact h2
          subst hkn
          obtain ⟨g', q', hv, _, _⟩ := IV5.cell
          have hv' : ch = .slice (some ⟨g', 0, none⟩) 2 q' := hv
          clear hv
          refine (take_old b c (sess2 kn cf ch tk) rq pk2 nn w3.heap.size 2 2 g' 2 q' w5 L5.sb hrz hP (by dsimp only [sess2]; omega) (by dsimp only [sess2]; omega) (by dsimp only [sess2]; omega) hv' (by decide)).mono ?_
          rintro e w6 ⟨ans2, rfl, _, _, o⟩
          have T0 := L5.t0
          have T1 := L5.t1
          have L6 := L5.keep0 o
          have I6 := IV5.keep0 o
          have C6 := C5.keep o (by simp)
          have low6 := L6.low
          have S6 := L6.sb
          clear o L5 L6 I5 hP C5 IV5 hv'
          go_wp2_with fail
          have hmx : (kn != max kn nn) = false := by simp; omega
          have hcf : Calls Tryd.prog 15 #[.pointer (some ⟨b, 0, none⟩)] w6 (GivesC kn cf [h0, y0] w6) := conf_of b c (sess2 kn cf ch tk) rq h0 y0 w6 S6 hrz I6
          refine hcf.mono ?_
          clear hcf
          rintro e w7 ⟨v2, rfl, I7, o⟩
          obtain ⟨g2, q2, hv2, _, _⟩ := I7.cell
          have hv2' : v2 = .slice (some ⟨g2, 0, none⟩) 2 q2 := hv2
          subst hv2'
          have S7 := S6.keep o (by simp)
          have C7 := C6.keep o (by simp)
          have IV7 := I6.keep0 o
          have low7 := low6.trans (o.below low6.size (by simp))
          clear o S6 C6 I6 I7 hv2 low6
          go_wp2_with fail
          obtain ⟨w8, hw8⟩ : ∃ w8, w8 = w7.alloc (Obj.cells #[Value.int IntKind.i64 kn, Value.int IntKind.i64 cf, Value.slice (some { block := g2, off := 0 }) 2 q2] 29) := ⟨_, rfl⟩
          rw [← hw8]
          have o8 : Only [] w7 w8 := by rw [hw8]; exact (Only.refl [] w7).alloc _
          have S8 := S7.keep o8 (by simp)
          have C8 := C7.keep o8 (by simp)
          have I8 := IV7.keep0 o8
          have low8 := low7.trans (o8.below low7.size (by simp))
          clear hw8 o8 S7 C7 IV7 low7
          refine (tick0 b c _ rq h0 y0 w8 S8 hrz I8 C8 HB.out.2 rfl (by dsimp only [sess2]; omega) (by dsimp only [sess2]; omega) (by dsimp only [sess2]; omega) (by dsimp only [sess2]; omega) (by dsimp only [sess2]; omega) (by dsimp only [sess2]; omega)).mono ?_
          rintro e w10 ⟨rfl, S10, C10, o⟩
          have I10 : Ints w10 ch [h0, y0] := I8.keep o (by
            have h1 : w8.heap[b]? = some (.cells (sv _ rq c) 94 (0, 0)) := S8
            obtain ⟨_, _, h2⟩ := C8
            simp [h1, h2])
          have low10 := low8.trans (o.below low8.size HB.out.1)
          replace S10 : SB w10 b c (sess2 kn cf ch (tk + 1)) rq := S10
          clear o S8 C8 I8 low8
          go_wp2_with fail
          refine (sends_none w10).mono ?_
          rintro e w' ⟨rfl, rfl⟩
          have L10 : CI w b c rq (j + 1) (max kn nn) kn cf ch (tk + 1) w10 := { sb := S10, t0 := by omega, t1 := by omega, low := low10, st := .inr ⟨h0, y0, I10, by omega, C10⟩ }
          have H10 := Lib.hid L10
          clear S10 C10 I10 low10 T0 T1 L10
          go_wp2_with fail
          go_roundw
          case rel => exact ⟨j + 1, _, _, _, _, _, rfl, by go_num, by omega, by omega, H10.out⟩
          case measure => simp [intOf]; omega
      · go_wp2_with fail
        refine (works20 wr).mono ?_
        rintro e w' ⟨rfl, o⟩
        have LO := Lib.hid (LJ.out.low.trans (o.below LJ.out.low.size (by simp)))
        go_wp2_with fail
        go_ret
        exact ⟨rfl, LO.out⟩
    · go_wp2_with fail
      refine (works20 wr).mono ?_
      rintro e w' ⟨rfl, o⟩
      have LO := Lib.hid (LJ.out.low.trans (o.below LJ.out.low.size (by simp)))
      go_wp2_with fail
      go_ret
      exact ⟨rfl, LO.out⟩
end Go.Proofs.YtlmkiekdkonofaaDoor
