/-
  asks: a master starts, and asks two; what it leaves is what the plain law's 'ask' says.
-/
import Derived.Test.YtlmkiekdkonofaaDoorKb
import Derived.Deep.RegionWith
import Derived.StillTailTactics
namespace Go.Proofs.YtlmkiekdkonofaaDoor
open Go.RowKit
attribute [local go_sem] alloc_drewN setCell_drewN

/-- The rest of asking: n more, from the j-th on. -/
def askFrom (who whom : Nat) : Nat → Nat → Cn → Cn
  | 0, _, s => s
  | n + 1, j, s => if (s.ld who).bal ≤ s.pr ((whom + j) % 3) then refused s who ((whom + j) % 3) else askFrom who whom n (j + 1) (rnd s who ((whom + j) % 3))

theorem ask_from (st : Cn) (who whom : Nat) (h : whom < 3) : ask st who whom = askFrom who whom 2 0 (start st who) := by
  have e0 : (whom + 0) % 3 = whom := by omega
  have e1 : (whom + 1) % 3 = behind whom := rfl
  simp only [askFrom, ask, e0, e1, Nat.zero_add]

/-- What asking leaves. -/
def Asked (st : Cn) (who whom B C : Nat) (L : Nat → Nat) (w : World) (e : Ending) (w' : World) : Prop :=
  ∃ mb M, e = .returned (.bool true) ∧ CM w' B C L mb (ask st who whom) ∧ mb who = some M ∧ Below B w w'

/-- Between two of those whom it asks. -/
structure Mid (st : Cn) (who whom B C : Nat) (L : Nat → Nat) (w : World) (j : Nat) (s : Cn) (mb : Nat → Option Nat) (M : Nat) (wr : World) : Prop where
  j2 : j ≤ 2
  cm : CM wr B C L mb s
  hM : mb who = some M
  rest : ask st who whom = askFrom who whom (2 - j) j s
  bal : (s.ld who).bal = newB st who
  pend : (s.ld who).pend = none
  frm : (s.ld who).frm = 1
  pm0 : j = 0 → (s.ld who).pm = 0
  pm1 : j = 1 → (s.ld who).pm = orB 0 whom
  ph1 : j < 2 → (s.ld who).ph = 1
  ph2 : j = 2 → (s.ld who).ph = 2
  num : ∀ k, k < 3 → 0 ≤ s.vb k ∧ s.vb k ≤ s.pr k ∧ s.pr k ≤ 600
  low : Below B w wr

theorem app4 (a b c d : Value) (X : Array Value) : (#[a, b, c, d] ++ X)[0]? = some a ∧ (#[a, b, c, d] ++ X)[1]? = some b ∧ (#[a, b, c, d] ++ X)[2]? = some c ∧ (#[a, b, c, d] ++ X)[3]? = some d := by
  refine ⟨?_, ?_, ?_, ?_⟩ <;> (rw [Array.getElem?_append_left (by simp)]; rfl)
theorem vote_app {w : World} {V : Nat} {vb n : Int} {s : Value} {X : Array Value} (h : w.heap[V]? = some (.cells (#[.int .i64 vb, .int .i64 n, .int .i64 1, s] ++ X) 31)) : VoteAt w V vb n s :=
  have a := app4 (.int .i64 vb) (.int .i64 n) (.int .i64 1) s X
  ⟨(cell_blk h 0).trans a.1, (cell_blk h 1).trans a.2.1, (cell_blk h 2).trans a.2.2.1, (cell_blk h 3).trans a.2.2.2, hp_lt h⟩

theorem Mid.pm8 {st s : Cn} {who whom B C j M : Nat} {L : Nat → Nat} {mb : Nat → Option Nat} {w wr : World} (hm : Mid st who whom B C L w j s mb M wr) (hj : j < 2) (h1 : whom < 3) : (s.ld who).pm < 8 := by
  have : j = 0 ∨ j = 1 := by omega
  rcases this with rfl | rfl
  · rw [hm.pm0 rfl]; decide
  · rw [hm.pm1 rfl]; exact (phB_orB whom h1).2.2

/-- A voter has promised, and the one that asks has taken it. -/
theorem Mid.step {st s : Cn} {who whom B C j k M : Nat} {L : Nat → Nat} {mb : Nat → Option Nat} {w wr W w3 : World} (hm : Mid st who whom B C L w j s mb M wr) (h0 : who < 3) (hj : j < 2) (hk : k = (whom + j) % 3) (hk3 : k < 3) (h1 : whom < 3) (hr : s.pr k < newB st who) (hb : newB st who ≤ 600 ∧ 0 ≤ newB st who)
    (hc : CM W B C L mb { s with pr := put s.pr k (newB st who) }) (hlow : Below B wr W) (hl : LdAt w3 (L who) who (some M) (promised (s.ld who) k (s.vb k) (s.vv k))) (ho : Only [L who, M] W w3) :
    Mid st who whom B C L w (j + 1) (rnd s who k) (put mb who (some M)) M w3 := by
  have e0 : (rnd s who k).ld who = promised (s.ld who) k (s.vb k) (s.vv k) := by simp [rnd, put_same]
  have c3 := hc.lead who h0 ho (by intro b hb; simp at hb; rcases hb with rfl | rfl; exact .inl rfl; exact .inr hm.hM) (some M) (.inl hm.hM.symm) _ hl (fun _ => ⟨_, rfl⟩)
  have es : rnd s who k = { { s with pr := put s.pr k (newB st who) } with ld := put s.ld who (promised (s.ld who) k (s.vb k) (s.vv k)) } := by
    simp only [rnd, hm.bal]
  have hBW : B ≤ W.heap.size := Nat.le_trans hc.base.2.1 (Nat.le_of_lt hc.lt)
  refine { j2 := by omega, cm := es ▸ c3, hM := put_same _ _ _, rest := ?_, bal := ?_, pend := ?_, frm := ?_, pm0 := fun e => by omega, pm1 := ?_, ph1 := ?_, ph2 := ?_, num := ?_, low := ?_ }
  · rw [hm.rest]
    obtain ⟨n', hn'⟩ : ∃ n', 2 - j = n' + 1 := ⟨2 - j - 1, by omega⟩
    rw [hn', show 2 - (j + 1) = n' by omega]
    simp only [askFrom]
    rw [← hk, if_neg (by rw [hm.bal]; omega)]
  · rw [e0]; exact hm.bal
  · rw [e0]; exact hm.pend
  · rw [e0]; exact hm.frm
  · intro e
    have : j = 0 := by omega
    subst this
    rw [e0]
    show orB (s.ld who).pm k = orB 0 whom
    rw [hm.pm0 rfl, hk, show (whom + 0) % 3 = whom by omega]
  · intro e
    have : j = 0 := by omega
    subst this
    rw [e0]
    show phB (orB (s.ld who).pm k) = 1
    rw [hm.pm0 rfl, hk, show (whom + 0) % 3 = whom by omega]
    exact (phB_orB whom h1).1
  · intro e
    have : j = 1 := by omega
    subst this
    rw [e0]
    show phB (orB (s.ld who).pm k) = 2
    rw [hm.pm1 rfl, hk]
    exact (phB_orB whom h1).2.1
  · intro i hi
    have := hm.num i hi
    have e1 : (rnd s who k).vb = s.vb := rfl
    rw [e1]
    simp only [rnd]
    by_cases e : i = k
    · subst e; rw [put_same, hm.bal]; omega
    · rw [put_other _ _ _ e]; exact this
  · exact (hm.low.trans hlow).trans (ho.below hBW (by intro x hx; simp at hx; rcases hx with rfl | rfl; exact hc.base.2.2.1 who h0; exact hc.base.2.2.2 who h0 _ hm.hM))

set_option maxHeartbeats 4000000 in
set_option maxRecDepth 100000 in
theorem asks_any (B C who whom : Nat) (L : Nat → Nat) (mb : Nat → Option Nat) (st : Cn) (w : World) (h : CM w B C L mb st) (h0 : who < 3) (h1 : whom < 3)
    (hn : ∀ k, k < 3 → 0 ≤ st.vb k ∧ st.vb k ≤ st.pr k ∧ st.pr k ≤ 500 ∧ 0 ≤ (st.ld k).bal ∧ (st.ld k).bal ≤ 500) :
    Calls Tryd.prog 8 #[.pointer (some ⟨C, 0, none⟩), .int .i64 who, .int .i64 whom] w (Asked st who whom B C L w) := by
  have hw := hn who h0
  obtain ⟨v0, _⟩ := h.vot who h0
  have p0 := h.ptr who h0
  have hS := Lib.hid (startC (L who) who (mb who) (st.ld who) (st.pr who) w (h.lds who h0) (by omega) (by omega) h0 hw.2.2.2.1 (by omega))
  have HN := Lib.hid hn
  have H := Lib.hid h
  have hb0 := nextB_facts who (max (st.pr who) (st.ld who).bal) (by omega) (by omega)
  have hb1 : newB st who ≤ 600 ∧ 0 ≤ newB st who := by unfold newB; omega
  have eb : nextB who (max (st.pr who) (st.ld who).bal) = newB st who := rfl
  rw [eb] at hS
  clear hn h hw eb hb0
  go_enter Tryd.func8, Tryd.ntmps8
  go_wp2_with (first | (go_at_call 19; refine hS.out.mono ?_; rintro e w1 ⟨rfl, hl, ho⟩; have HL1 := Lib.hid hl; have HO1 := Lib.hid ho; clear hl ho))
  -- the council has one that asks
  have c1 := H.out.lead who h0 HO1.out (by simp) (some w.heap.size) (.inr ⟨_, rfl, Nat.le_refl _⟩) _ HL1.out (fun _ => ⟨_, rfl⟩)
  have b1 : Below B w w1 := HO1.out.below (Nat.le_trans H.out.base.2.1 (Nat.le_of_lt H.out.lt)) (by intro x hx; simp at hx; subst hx; exact H.out.base.2.2.1 who h0)
  have m0 : Mid st who whom B C L w 0 (start st who) (put mb who (some w.heap.size)) w.heap.size w1 := by
    have e0 : (start st who).ld who = started (newB st who) := by simp [start, put_same]
    refine { j2 := by omega, cm := c1, hM := put_same _ _ _, rest := ask_from st who whom h1, bal := by rw [e0]; rfl, pend := by rw [e0]; rfl, frm := by rw [e0]; rfl, pm0 := fun _ => by rw [e0]; rfl, pm1 := fun e => by omega, ph1 := fun _ => by rw [e0]; rfl, ph2 := fun e => by omega, num := fun k hk => ?_, low := b1 }
    have := HN.out k hk
    exact ⟨this.1, this.2.1, by show st.pr k ≤ 600; omega⟩
  have M0 := Lib.hid m0
  clear m0 c1 b1 HL1 HO1 hS H v0 p0
  go_loopw [10] (fun i wr => ∃ (j : Nat) (s : Cn) (mb' : Nat → Option Nat) (M : Nat), i = .int .i64 j ∧ Mid st who whom B C L w j s mb' M wr) (fun i _ => 2 - (intOf i).toNat)
  case atStart => exact ⟨0, _, _, _, rfl, M0.out⟩
  case round =>
    obtain ⟨j, s, mb', M, rfl, hm⟩ := hrel
    clear M0
    by_cases hj : j < 2
    · obtain ⟨k, hk⟩ : ∃ k, k = (whom + j) % 3 := ⟨_, rfl⟩
      have hk3 : k < 3 := by omega
      have ek : ((whom : Int) + (j : Int)) % 3 = (k : Int) := by omega
      have KK := Lib.hid hk
      clear hk
      obtain ⟨q0, q1, n, f, sl, q2, q3, q4, ⟨ga, gn, gc, rfl⟩, q6⟩ := hm.cm.vot k hk3
      have p0 := hm.cm.ptr who h0
      have hfz := hm.cm.free
      have hlt := hm.cm.lt
      have HM := Lib.hid hm
      have Q6 := Lib.hid q6
      clear hm q6
      by_cases hr : newB st who ≤ s.pr k
      · go_wp2_with fail
        have i0 : (who : Int) < 3 := by omega
        have i1 : (k : Int) < 3 := by omega
        go_still_tail 13, (by kernel_rfl)
        change wpList _ _ _ _ _ wr.drew
        go_wp2_with fail
        have hfin : ask st who whom = refused s who k := by
          rw [HM.out.rest]
          obtain ⟨n', hn'⟩ : ∃ n', 2 - j = n' + 1 := ⟨2 - j - 1, by omega⟩
          rw [hn']
          simp only [askFrom]
          rw [← KK.out, if_pos (by rw [HM.out.bal]; exact hr)]
        have HF := Lib.hid hfin
        have o1 : Only [] wr wr.drew := (Only.refl _ _).drew
        have ld1 := (HM.out.cm.keep0 o1).lds who h0
        have O1 := Lib.hid o1
        have LD1 := Lib.hid ld1
        clear hfin o1 ld1
        by_cases hq : s.pr k ≤ newB st who
        · refine (noC0 (L who) who (mb' who) (s.ld who) (s.pr k) _ LD1.out (by rw [HM.out.bal]; exact hq)).mono ?_
          rintro e w2 ⟨rfl, rfl⟩
          go_wp2_with fail
          go_ret
          refine ⟨mb', M, rfl, ?_, HM.out.hM, HM.out.low.trans (O1.out.below (Nat.le_trans HM.out.cm.base.2.1 (Nat.le_of_lt HM.out.cm.lt)) (by simp))⟩
          rw [HF.out, refused, if_pos (by rw [HM.out.bal]; exact hq)]
          exact HM.out.cm.keep0 O1.out
        · refine (noC1 (L who) who (mb' who) (s.ld who) (s.pr k) _ LD1.out (by rw [HM.out.bal]; omega) (by rw [HM.out.ph1 hj]; decide)).mono ?_
          rintro e w2 ⟨rfl, hl2, ho2⟩
          have HL2 := Lib.hid hl2
          have HO2 := Lib.hid ho2
          clear hl2 ho2
          go_wp2_with fail
          go_ret
          have c1 := (HM.out.cm.keep0 O1.out).lead who h0 HO2.out (by simp) (mb' who) (.inl rfl) _ HL2.out (fun h => absurd rfl h)
          refine ⟨put mb' who (mb' who), M, rfl, ?_, (put_same _ _ _).trans HM.out.hM, HM.out.low.trans (((O1.out.mono (bs' := [L who]) (by simp)).trans HO2.out (fun x hx => .inl hx)).below (Nat.le_trans HM.out.cm.base.2.1 (Nat.le_of_lt HM.out.cm.lt)) (by intro x hx; simp at hx; subst hx; exact HM.out.cm.base.2.2.1 who h0))⟩
          rw [HF.out, refused, if_neg (by rw [HM.out.bal]; omega)]
          exact c1
      · have hr' : s.pr k < newB st who := by omega
        have hv := HM.out.num k hk3
        by_cases hv0 : s.vb k = 0
        · have hv1 : s.vb k ≤ 0 := by omega
          have V0 := Lib.hid hv0
          clear hv0
          go_wp2_with fail
          have c2 := HM.out.cm.promise k hk3 (newB st who)
          have C2 := Lib.hid c2
          have hbw : Below B wr (wr.setCell ⟨C, 3 + k * 5, none⟩ (.int .i64 (newB st who))) := (Below.refl _ _).setCell (p := ⟨C, 3 + k * 5, none⟩) HM.out.cm.base.2.1 _
          have HBW := Lib.hid hbw
          clear c2 hbw
          have hB := Lib.hid (promiseL (L who) who M k (s.ld who) _ (s.vb k) (s.vv k) _ (HM.out.hM ▸ C2.out.lds who h0) (HM.out.ph1 hj) HM.out.pend HM.out.frm C2.out.tab (by have := C2.out.base; have := this.2.2.1 who h0; omega) (by have := C2.out.base; have := this.2.2.2 who h0 M HM.out.hM; omega) hk3 (HM.out.pm8 hj h1) (.inl ⟨V0.out, rfl⟩) (by rw [HM.out.bal]; omega))
          rw [HM.out.bal] at hB
          refine hB.out.mono ?_
          rintro e w3 ⟨rfl, hl3, ho3⟩
          have M3 := Lib.hid (HM.out.step h0 hj KK.out hk3 h1 hr' hb1 C2.out HBW.out hl3 ho3)
          clear hl3 ho3 hB
          go_wp2_with fail
          go_roundw
          case rel => exact ⟨j + 1, _, _, M, by go_num, M3.out⟩
          case measure => simp [intOf]; omega
        · have hv1 : 0 < s.vb k := by omega
          obtain ⟨rfl, rfl, hi⟩ := Q6.out hv0
          obtain ⟨gi, gcap, hgs, hgl, hgc⟩ := hi.one
          simp only [Value.slice.injEq] at hgs
          obtain ⟨rfl, rfl, rfl⟩ := hgs
          have HI := Lib.hid hi
          have V0 := Lib.hid hv0
          clear hv0 hi hgl hgc
          go_wp2_with fail
          obtain ⟨cp, hcp⟩ : ∃ cp, cp = (Question.appendCap 1 0 31).cut (wr.tape wr.drawn (Question.appendCap 1 0 31)) := ⟨_, rfl⟩
          rw [← hcp]
          obtain ⟨X, hX⟩ : ∃ X, X = Builtin.zeroCells #[.int .i64 0, .int .i64 0, .int .i64 0, .slice none 0 0] (cp - 1) := ⟨_, rfl⟩
          rw [← hX]
          clear hcp hX
          obtain ⟨W, hW⟩ : ∃ W, W = (((wr.setCell ⟨C, 3 + k * 5, none⟩ (.int .i64 (newB st who))).alloc (.cells #[.int .i64 (s.vb k), .int .i64 1, .int .i64 1, .slice (some ⟨gi, 0, none⟩) 1 gc] 31)).alloc (.cells (#[.int .i64 (s.vb k), .int .i64 1, .int .i64 1, .slice (some ⟨gi, 0, none⟩) 1 gc] ++ X) 31)).drew := ⟨_, rfl⟩
          rw [← hW]
          have o2 : Only [] (wr.setCell ⟨C, 3 + k * 5, none⟩ (.int .i64 (newB st who))) W := by
            rw [hW]
            exact (((Only.refl [] _).alloc _).alloc _).drew
          have bV : W.heap[wr.heap.size + 1]? = some (.cells (#[.int .i64 (s.vb k), .int .i64 1, .int .i64 1, .slice (some ⟨gi, 0, none⟩) 1 gc] ++ X) 31) := by
            rw [hW, hp_drew, hp_alloc, if_pos (by simp)]
          clear hW
          have ho1 : Only [C] wr (wr.setCell ⟨C, 3 + k * 5, none⟩ (.int .i64 (newB st who))) := (Only.refl _ _).setCell _ _ _ (by simp)
          have hni : ∀ b ∈ [C], ∀ cur f, wr.heap[b]? ≠ some (.cells cur 3 f) := by
            obtain ⟨cs, hcs⟩ := HM.out.cm.cblk
            simp [hcs]
          have hvt : VotesAt W (.slice (some ⟨wr.heap.size + 1, 0, none⟩) 1 cp) (s.vb k) (s.vv k) :=
            .inr ⟨hv1, wr.heap.size + 1, cp, _, rfl, vote_app bV, (HI.out.keep ho1 hni).keep0 o2⟩
          have C2 := Lib.hid ((HM.out.cm.promise k hk3 (newB st who)).keep0 o2)
          have HBW := Lib.hid (show Below B wr W from ((Below.refl _ _).setCell (p := ⟨C, 3 + k * 5, none⟩) HM.out.cm.base.2.1 _).trans (o2.below (by simp; exact Nat.le_trans HM.out.cm.base.2.1 (Nat.le_of_lt HM.out.cm.lt)) (by simp)))
          have HV := Lib.hid hvt
          clear o2 bV ho1 hni hvt
          have hB := Lib.hid (promiseL (L who) who M k (s.ld who) _ (s.vb k) (s.vv k) _ (HM.out.hM ▸ C2.out.lds who h0) (HM.out.ph1 hj) HM.out.pend HM.out.frm C2.out.tab (by have := C2.out.base; have := this.2.2.1 who h0; omega) (by have := C2.out.base; have := this.2.2.2 who h0 M HM.out.hM; omega) hk3 (HM.out.pm8 hj h1) HV.out (by rw [HM.out.bal]; omega))
          rw [HM.out.bal] at hB
          refine hB.out.mono ?_
          rintro e w3 ⟨rfl, hl3, ho3⟩
          have M3 := Lib.hid (HM.out.step h0 hj KK.out hk3 h1 hr' hb1 C2.out HBW.out hl3 ho3)
          clear hl3 ho3 hB
          go_wp2_with fail
          go_roundw
          case rel => exact ⟨j + 1, _, _, M, by go_num, M3.out⟩
          case measure => simp [intOf]; omega
    · -- both have been asked
      obtain rfl : j = 2 := by have := hm.j2; omega
      have p0 := hm.cm.ptr who h0
      have lc := (hm.cm.lds who h0).cells
      have hP := Lib.hid (phase_any (L who) ((s.ld who).ph) wr lc.1 lc.2.2)
      rw [hm.ph2 rfl] at hP
      have HM := Lib.hid hm
      clear hm lc
      go_wp2_with (first | (go_at_call 10; refine hP.out.mono ?_; rintro e w2 ⟨rfl, rfl⟩))
      go_ret
      have e2 : ask st who whom = s := HM.out.rest
      exact ⟨mb', M, rfl, e2 ▸ HM.out.cm, HM.out.hM, HM.out.low⟩
end Go.Proofs.YtlmkiekdkonofaaDoor
