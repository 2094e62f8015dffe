/-
  proposes: what it leaves is what the plain law's 'say' says, where what is chosen is what was chosen.
-/
import Derived.Test.YtlmkiekdkonofaaDoorKb
import Derived.Deep.RegionWith
import Derived.StillTailTactics
import Derived.Deep.QuietTactic
import Derived.BigQuiet
namespace Go.Proofs.YtlmkiekdkonofaaDoor
open Go.RowKit
attribute [local go_sem] alloc_drewN setCell_drewN

/-- What proposing leaves. -/
def Said (st : Cn) (B C : Nat) (L : Nat → Nat) (w : World) (e : Ending) (w' : World) : Prop :=
  ∃ mb, e = .returned (.bool true) ∧ CM w' B C L mb st ∧ Below B w w'

set_option maxHeartbeats 4000000 in
set_option maxRecDepth 100000 in
theorem proposes_pend (B C who whom : Nat) (L : Nat → Nat) (mb : Nat → Option Nat) (st : Cn) (w : World) (h : CM w B C L mb st) (h0 : who < 3) (h1 : whom < 3) (p : Int) (hp : (st.ld who).pend = some p) (hph : (st.ld who).ph = 2) (hsd : (st.ld who).sd < 8)
    (hag : st.pr whom ≤ (st.ld who).bal → 2 ≤ cnt (orB (st.ld who).sd whom) → st.ch ≠ 0 → st.ch = p) :
    Calls Tryd.prog 11 #[.pointer (some ⟨C, 0, none⟩), .int .i64 who, .int .i64 whom] w (Said (tell st who whom p) B C L w) := by
  have p0 := h.ptr who h0
  have hP := Lib.hid (pendingC1 (L who) who (mb who) (st.ld who) p w (h.lds who h0) hp)
  have H := Lib.hid h
  clear h
  go_enter Tryd.func11, Tryd.ntmps11
  go_wp2_with fail
  refine hP.out.mono ?_
  rintro e w1 ⟨c, rfl, ⟨s, rfl, hs⟩, ho⟩
  obtain ⟨g, cap, rfl, _, hg⟩ := hs.one
  have c1 := H.out.keep0 ho
  have C1 := Lib.hid c1
  have HS := Lib.hid hs
  have HO := Lib.hid ho
  clear c1 hs ho hP
  -- p lies in a block of its own
  have ho2 : Only [] w1 (w1.alloc (.cells #[.int .i64 1, .int .i64 1, .slice (some ⟨g, 0, none⟩) 1 cap] 29)) := (Only.refl _ _).alloc _
  have c2 := C1.out.keep0 ho2
  have b2 : (w1.alloc (.cells #[.int .i64 1, .int .i64 1, .slice (some ⟨g, 0, none⟩) 1 cap] 29)).heap[w1.heap.size]? = some (.cells #[.int .i64 1, .int .i64 1, .slice (some ⟨g, 0, none⟩) 1 cap] 29) := heap_alloc_new _ _
  have s2 := HS.out.keep0 ho2
  have O2 := Lib.hid ((HO.out.trans ho2 (by simp)).below (Nat.le_trans H.out.base.2.1 (Nat.le_of_lt H.out.lt)) (by simp))
  have HB : Hid (∃ W, W = w1.alloc (.cells #[.int .i64 1, .int .i64 1, .slice (some ⟨g, 0, none⟩) 1 cap] 29)) := Lib.hid ⟨_, rfl⟩
  have lc := (c2.lds who h0).cells
  have hBl := Lib.hid (ballot_any (L who) (st.ld who).bal _ lc.1 lc.2.1)
  have C2 := Lib.hid c2
  have B2 := Lib.hid b2
  have S2 := Lib.hid s2
  clear ho2 c2 b2 s2 lc C1 HS HO
  go_wp2_with fail
  refine hBl.out.mono ?_
  rintro e w2 ⟨rfl, rfl⟩
  clear hBl HB
  obtain ⟨W, hW⟩ : ∃ W, W = w1.alloc (.cells #[.int .i64 1, .int .i64 1, .slice (some ⟨g, 0, none⟩) 1 cap] 29) := ⟨_, rfl⟩
  rw [← hW] at C2 B2 S2 O2 ⊢
  clear hW
  obtain ⟨q0, q1, n, f, sl, q2, q3, q4, ⟨ga, gn, gc, rfl⟩, q6⟩ := C2.out.vot whom h1
  obtain ⟨l2, f2, d0, d1, d2⟩ := blk3 B2.out
  have hlt := C2.out.lt
  have hfz := C2.out.free
  have hch := C2.out.chs
  have Q6 := Lib.hid q6
  clear q6
  by_cases hb : (st.ld who).bal < st.pr whom
  · go_wp2_with fail
    go_ret
    exact ⟨mb, rfl, by rw [tell, if_pos hb]; exact C2.out, O2.out⟩
  · have hb' : st.pr whom ≤ (st.ld who).bal := by omega
    have i0 : (whom : Int) < 3 := by omega
    go_wp2_with fail
    go_region
    -- the voter has voted
    have cv := C2.out.vote whom h1 (st.ld who).bal p g cap S2.out
    obtain ⟨W3, hW3⟩ : ∃ W3, W3 = (((((W.setCell ⟨C, 3 + whom * 5, none⟩ (.int .i64 (st.ld who).bal)).setCell ⟨C, 3 + whom * 5 + 1, none⟩ (.int .i64 (st.ld who).bal)).setCell ⟨C, 3 + whom * 5 + 2, none⟩ (.int .i64 1)).setCell ⟨C, 3 + whom * 5 + 3, none⟩ (.int .i64 1)).setCell ⟨C, 3 + whom * 5 + 4, none⟩ (.slice (some ⟨g, 0, none⟩) 1 cap)).drew := ⟨_, rfl⟩
    rw [← hW3] at cv ⊢
    clear hW3
    obtain ⟨c3, o3⟩ := cv
    have hPC : w1.heap.size ∉ [C] := by
      obtain ⟨cs, hcs⟩ := C2.out.cblk
      intro hx
      simp at hx
      rw [← hx, B2.out] at hcs
      cases hcs
    have hni : ∀ b ∈ [C], ∀ cur f, W.heap[b]? ≠ some (.cells cur 3 f) := by
      obtain ⟨cs, hcs⟩ := C2.out.cblk
      simp [hcs]
    have B3 := Lib.hid (o3.get B2.out hPC)
    have S3 := Lib.hid (S2.out.keep o3 hni)
    have O3 := Lib.hid (O2.out.trans (o3.below (B := B) (Nat.le_trans C2.out.base.2.1 (Nat.le_of_lt C2.out.lt)) (by intro x hx; simp at hx; subst hx; exact C2.out.base.2.1)))
    have hY := yesC (L who) who whom (mb who) (st.ld who) p W3 (c3.lds who h0) hp hph h1 hsd
    have C3 := Lib.hid c3
    clear c3 o3 hPC hni q0 q1 q2 q3 q4 Q6 l2 f2 d0 d1 d2 hlt hfz hch B2 S2 O2 C2
    by_cases hc : 2 ≤ cnt (orB (st.ld who).sd whom)
    · simp only [hc, decide_true, if_true] at hY
      have hY' := Lib.hid hY
      have HC := Lib.hid hc
      clear hY hc
      go_wp2_with fail
      refine hY'.out.mono ?_
      rintro e w4 ⟨rfl, hl4, ho4⟩
      have c4 := C3.out.lead who h0 ho4 (by simp) (mb who) (.inl rfl) _ hl4 (fun _ => C3.out.act who h0 (by rw [hph]; decide))
      have hPL : w1.heap.size ∉ [L who] := by
        obtain ⟨pd, hx, _⟩ := C3.out.lds who h0
        intro hy
        simp at hy
        unfold LB at hx
        rw [← hy, B3.out] at hx
        simp at hx
      have b4 := ho4.get B3.out hPL
      have s4 := S3.out.mut ho4 (C3.out.muts who h0 (by simp))
      obtain ⟨l2, f2, d0, d1, d2⟩ := blk3 b4
      obtain ⟨g', cap', hg', _, hgc⟩ := s4.one
      simp only [Value.slice.injEq, Option.some.injEq, Addr.mk.injEq] at hg'
      obtain ⟨⟨rfl, _, _⟩, _, rfl⟩ := hg'
      have hlt := c4.lt
      have hfz := c4.free
      have hch := c4.chs
      have O4 := Lib.hid (O3.out.trans (ho4.below (B := B) (Nat.le_trans C3.out.base.2.1 (Nat.le_of_lt C3.out.lt)) (by intro x hx; simp at hx; subst hx; exact C3.out.base.2.2.1 who h0)))
      have C4 := Lib.hid c4
      clear c4 hl4 ho4 hPL b4 s4 hY' B3 S3 O3 C3
      go_wp2_with fail
      by_cases hz : st.ch = 0
      · have hz' : (st.ch != 0) = false := by simp [hz]
        clear hz
        go_quiet (fail)
        go_wp2_with fail
        go_ret
        have hch' := (C4.out.keep0 ((Only.refl [] w4).drewN nq)).choose p
        rw [setCell_drewN] at hch'
        refine ⟨put mb who (mb who), rfl, ?_, O4.out.trans ((((Only.refl [] w4).drewN nq).mono (bs' := [C]) (by simp)).trans hch'.2 (by simp) |>.below (Nat.le_trans C4.out.base.2.1 (Nat.le_of_lt C4.out.lt)) (by intro x hx; simp at hx; subst hx; exact C4.out.base.2.1))⟩
        have e1 : tell st who whom p = { { { st with pr := put st.pr whom (st.ld who).bal, vb := put st.vb whom (st.ld who).bal, vv := put st.vv whom p } with ld := put st.ld who { st.ld who with frm := 2, pend := none, sd := orB (st.ld who).sd whom } } with ch := p } := by
          simp only [tell, if_neg (Int.not_lt.2 hb'), voted1, if_pos HC.out]
        rw [e1]
        exact hch'.1
      · have hz' : (st.ch != 0) = true := by simp [hz]
        have hz2 : (st.ch != p) = false := by simp [hag hb' HC.out hz]
        have HZ := Lib.hid hz
        clear hz
        go_quiet (fail)
        go_wp2_with fail
        go_ret
        have hch' := (C4.out.keep0 ((Only.refl [] w4).drewN nq)).choose p
        rw [setCell_drewN] at hch'
        refine ⟨put mb who (mb who), rfl, ?_, O4.out.trans ((((Only.refl [] w4).drewN nq).mono (bs' := [C]) (by simp)).trans hch'.2 (by simp) |>.below (Nat.le_trans C4.out.base.2.1 (Nat.le_of_lt C4.out.lt)) (by intro x hx; simp at hx; subst hx; exact C4.out.base.2.1))⟩
        have e1 : tell st who whom p = { { { st with pr := put st.pr whom (st.ld who).bal, vb := put st.vb whom (st.ld who).bal, vv := put st.vv whom p } with ld := put st.ld who { st.ld who with frm := 2, pend := none, sd := orB (st.ld who).sd whom } } with ch := p } := by
          simp only [tell, if_neg (Int.not_lt.2 hb'), voted1, if_pos HC.out]
        rw [e1]
        exact hch'.1
    · simp only [hc, decide_false, if_false] at hY
      have hY' := Lib.hid hY
      have HC := Lib.hid hc
      clear hY hc
      go_wp2_with fail
      refine hY'.out.mono ?_
      rintro e w4 ⟨rfl, hl4, ho4⟩
      have c4 := C3.out.lead who h0 ho4 (by simp) (mb who) (.inl rfl) _ hl4 (fun _ => C3.out.act who h0 (by rw [hph]; decide))
      have hPL : w1.heap.size ∉ [L who] := by
        obtain ⟨pd, hx, _⟩ := C3.out.lds who h0
        intro hy
        simp at hy
        unfold LB at hx
        rw [← hy, B3.out] at hx
        simp at hx
      have b4 := ho4.get B3.out hPL
      obtain ⟨l2, f2, d0, d1, d2⟩ := blk3 b4
      have O4 := Lib.hid (O3.out.trans (ho4.below (B := B) (Nat.le_trans C3.out.base.2.1 (Nat.le_of_lt C3.out.lt)) (by intro x hx; simp at hx; subst hx; exact C3.out.base.2.2.1 who h0)))
      have C4 := Lib.hid c4
      clear c4 hl4 ho4 hPL b4 hY' B3 S3 O3 C3
      go_wp2_with fail
      go_ret
      refine ⟨put mb who (mb who), rfl, ?_, O4.out⟩
      have e1 : tell st who whom p = { { st with pr := put st.pr whom (st.ld who).bal, vb := put st.vb whom (st.ld who).bal, vv := put st.vv whom p } with ld := put st.ld who { st.ld who with sd := orB (st.ld who).sd whom } } := by
        simp only [tell, if_neg (Int.not_lt.2 hb'), voted1, if_neg HC.out]
      rw [e1]
      exact C4.out

set_option maxHeartbeats 4000000 in
set_option maxRecDepth 100000 in
theorem proposes_new (B C who whom : Nat) (L : Nat → Nat) (mb : Nat → Option Nat) (st : Cn) (w : World) (h : CM w B C L mb st) (h0 : who < 3) (h1 : whom < 3) (hpn : (st.ld who).pend = none) (hm : may (st.ld who)) (p : Int) (hpv : p = toSay (st.ld who) who) (s1 : Cn) (hs1 : s1 = { st with ld := put st.ld who (proposed (st.ld who) p) }) :
    Calls Tryd.prog 11 #[.pointer (some ⟨C, 0, none⟩), .int .i64 who, .int .i64 whom] w (Said (tell s1 who whom p) B C L w) := by
  have HPV := Lib.hid hpv
  have HS1 := Lib.hid hs1
  clear hpv hs1
  have p0 := h.ptr who h0
  have hP := Lib.hid (pendingC0 (L who) who (mb who) (st.ld who) w (h.lds who h0) hpn)
  obtain ⟨M, hM⟩ := h.act who h0 (by rw [hm.1]; decide)
  have H := Lib.hid h
  have HM := Lib.hid hM
  have HPN := Lib.hid hpn
  have HMY := Lib.hid hm
  clear h hM hpn hm
  go_enter Tryd.func11, Tryd.ntmps11
  go_wp2_with fail
  refine hP.out.mono ?_
  rintro e w1 ⟨rfl, ho⟩
  have HSZ := ho.size
  have HO := Lib.hid ho
  clear ho hP
  go_wp2_with fail
  refine (conf_any 1 (10 + (who : Int)) _).mono ?_
  rintro e w2 ⟨c, rfl, hcf, ho⟩
  have hcf' := hcf
  obtain ⟨s, rfl, hs⟩ := hcf
  obtain ⟨gz, capz, rfl, _, _⟩ := hs.one
  have b1 : w2.heap[w1.heap.size]? = _ := ho.get0 (heap_alloc_new w1 (.cells #[.int .i64 0, .int .i64 0, .slice none 0 0] 29))
  have o2 : Only [] w w2 := (HO.out.trans ((Only.refl [] w1).alloc _) (by simp)).trans ho (by simp)
  have c2 := H.out.keep0 o2
  have hPr := Lib.hid (proposeC2 (L who) who M (st.ld who) _ w2 (HM.out ▸ c2.lds who h0) hcf' HMY.out HPN.out)
  have B1 := Lib.hid b1
  have O1 := Lib.hid o2
  have C1 := Lib.hid c2
  clear hs hcf' ho b1 o2 c2 HO
  go_wp2_with fail
  refine hPr.out.mono ?_
  rintro e w3 ⟨c', Pb, cs, rfl, ⟨s', rfl, hs'⟩, hl3, hP3, hC3, hle, hm3, ho3⟩
  clear hPr
  obtain ⟨g, cap, rfl, _, hg'⟩ := hs'.one
  rw [← HPV.out] at hs' hg' hC3
  have hPL : w1.heap.size ∉ [L who] := by
    obtain ⟨pd, hx, _⟩ := C1.out.lds who h0
    intro hy
    simp at hy
    unfold LB at hx
    rw [← hy, B1.out] at hx
    simp at hx
  have b3 := ho3.get B1.out hPL
  have B3 := Lib.hid b3
  have S3 := Lib.hid hs'
  have R3 := Lib.hid (And.intro hl3 (And.intro hP3 (And.intro hC3 (And.intro hle (And.intro hm3 ho3)))))
  obtain ⟨l2, f2, d0, d1, d2⟩ := blk3 b3
  clear hl3 ho3 hPL b3 hs' hg' hP3 hC3 hle hm3
  go_wp2_with fail
  -- p lies in the block that Pending's answer lay in
  obtain ⟨W, hW⟩ : ∃ W, W = (((w3.setCell ⟨w1.heap.size, 0, none⟩ (.int .i64 1)).setCell ⟨w1.heap.size, 1, none⟩ (.int .i64 1)).setCell ⟨w1.heap.size, 2, none⟩ (.slice (some ⟨g, 0, none⟩) 1 cap)).alloc (.cells #[.int .i64 1, .int .i64 1, .slice (some ⟨g, 0, none⟩) 1 cap] 29) := ⟨_, rfl⟩
  rw [← hW]
  have oW : Only [w1.heap.size] w3 W := by
    rw [hW]
    repeat' (first | with_reducible assumption | with_reducible refine Only.alloc ?_ _ | with_reducible refine Only.drew ?_ | with_reducible refine Only.drewN ?_ _ | with_reducible refine Only.setCell ?_ _ _ _ (by simp) | with_reducible exact Only.refl _ _)
  have bW : W.heap[w1.heap.size]? = some (.cells #[.int .i64 1, .int .i64 1, .slice (some ⟨g, 0, none⟩) 1 cap] 29) := by
    rw [hW, Below.heap_alloc _ _ _ (by simpa using l2)]
    simp [hp_set, B3.out, setc]
  clear hW l2 f2 d0 d1 d2
  obtain ⟨rl, rP, rC, rle, rm, ro⟩ := R3.out
  have hni : ∀ b ∈ [w1.heap.size], ∀ cur f, w3.heap[b]? ≠ some (.cells cur 3 f) := by simp [B3.out]
  have sW := S3.out.keep oW hni
  have hlw1 : w1.heap.size < w2.heap.size := hp_lt B1.out
  have hML : M < w1.heap.size := by
    obtain ⟨pd, _, _, h3⟩ := H.out.lds who h0
    obtain ⟨es, km, hme⟩ := (h3 M HM.out).mut
    have := hp_lt hme
    have := HSZ
    omega
  have oA : Only [L who] w W := ((O1.out.mono (bs' := [L who]) (by simp)).trans ro (fun x hx => .inl hx)).trans oW (by simp; right; exact HSZ)
  have lW : LdAt W (L who) who (some M) (proposed (st.ld who) p) := by
    refine ⟨some ⟨Pb, 0, none⟩, oW.get rl (fun hx => ?_), ⟨Pb, cs, rfl, oW.get rP (by simp; omega), rC.keep oW hni⟩, fun M' e => ?_⟩
    · simp at hx
      unfold LB at rl
      rw [hx, B3.out] at rl
      simp at rl
    · cases e
      have hMn : M ∉ [w1.heap.size] := by simp; omega
      show MapAt W M (st.ld who).bd
      cases hbd : (st.ld who).bd with
      | none => rw [hbd] at rm; obtain ⟨k, hk⟩ := rm; exact ⟨k, oW.get hk hMn⟩
      | some x => rw [hbd] at rm; obtain ⟨s, b, k, hk, hs⟩ := rm; exact ⟨s, b, k, oW.get hk hMn, hs.keep oW hni⟩
  have cW := H.out.lead who h0 oA (by simp) (some M) (.inl HM.out.symm) _ lW (fun _ => ⟨_, rfl⟩)
  have OB := Lib.hid (oA.below (B := B) (Nat.le_trans H.out.base.2.1 (Nat.le_of_lt H.out.lt)) (by intro x hx; simp at hx; subst hx; exact H.out.base.2.2.1 who h0))
  have hs1 := HS1.out
  rw [← hs1] at cW
  have e1 : s1.ld who = proposed (st.ld who) p := by rw [hs1]; exact put_same _ _ _
  have hp : (s1.ld who).pend = some p := by rw [e1]; rfl
  have hph : (s1.ld who).ph = 2 := by rw [e1]; exact HMY.out.1
  have hsd : (s1.ld who).sd < 8 := by rw [e1]; show 0 < 8; decide
  have hcn : ¬ 2 ≤ cnt (orB (s1.ld who).sd whom) := by
    rw [e1]
    have : whom = 0 ∨ whom = 1 ∨ whom = 2 := by omega
    show ¬ 2 ≤ cnt (orB 0 whom)
    rcases this with rfl | rfl | rfl <;> decide
  have hag : s1.pr whom ≤ (s1.ld who).bal → 2 ≤ cnt (orB (s1.ld who).sd whom) → s1.ch ≠ 0 → s1.ch = p := fun _ h _ => absurd h hcn
  have HAG := Lib.hid hag
  have HPP := Lib.hid hp
  have HPH := Lib.hid hph
  have HCN := Lib.hid hcn
  obtain ⟨mb1, hmb1⟩ : ∃ mb1, mb1 = put mb who (some M) := ⟨_, rfl⟩
  rw [← hmb1] at cW
  obtain ⟨PBv, hPB⟩ : ∃ PBv, PBv = w1.heap.size := ⟨_, rfl⟩
  rw [← hPB] at bW ⊢
  have lc := (cW.lds who h0).cells
  have hBl := Lib.hid (ballot_any (L who) (s1.ld who).bal _ lc.1 lc.2.1)
  have C2 := Lib.hid cW
  have B2 := Lib.hid bW
  have S2 := Lib.hid sW
  have O2 := Lib.hid OB.out
  clear hmb1 hPB oW bW rl rP rC rle rm ro hni sW hlw1 hML oA lW cW OB e1 hp hph hcn hag lc R3 S3 B3 HMY HPN HM O1 B1 C1 hs1
  have eb : (s1.ld who).bal = (s1.ld who).bal := rfl
  refine hBl.out.mono ?_
  rintro e wz ⟨rfl, rfl⟩
  clear hBl eb
  obtain ⟨q0, q1, n, f, sl, q2, q3, q4, ⟨ga, gn, gc, rfl⟩, q6⟩ := C2.out.vot whom h1
  obtain ⟨l2, f2, d0, d1, d2⟩ := blk3 B2.out
  have hlt := C2.out.lt
  have hfz := C2.out.free
  have hch := C2.out.chs
  have Q6 := Lib.hid q6
  clear q6
  by_cases hb : (s1.ld who).bal < s1.pr whom
  · go_wp2_with fail
    go_ret
    exact ⟨mb1, rfl, by rw [tell, if_pos hb]; exact C2.out, O2.out⟩
  · have hb' : s1.pr whom ≤ (s1.ld who).bal := by omega
    have i0 : (whom : Int) < 3 := by omega
    go_wp2_with fail
    go_region
    -- the voter has voted
    have cv := C2.out.vote whom h1 (s1.ld who).bal p g cap S2.out
    obtain ⟨W3, hW3⟩ : ∃ W3, W3 = (((((W.setCell ⟨C, 3 + whom * 5, none⟩ (.int .i64 (s1.ld who).bal)).setCell ⟨C, 3 + whom * 5 + 1, none⟩ (.int .i64 (s1.ld who).bal)).setCell ⟨C, 3 + whom * 5 + 2, none⟩ (.int .i64 1)).setCell ⟨C, 3 + whom * 5 + 3, none⟩ (.int .i64 1)).setCell ⟨C, 3 + whom * 5 + 4, none⟩ (.slice (some ⟨g, 0, none⟩) 1 cap)).drew := ⟨_, rfl⟩
    rw [← hW3] at cv ⊢
    clear hW3
    obtain ⟨c3, o3⟩ := cv
    have hPC : PBv ∉ [C] := by
      obtain ⟨cs, hcs⟩ := C2.out.cblk
      intro hx
      simp at hx
      rw [← hx, B2.out] at hcs
      cases hcs
    have hni : ∀ b ∈ [C], ∀ cur f, W.heap[b]? ≠ some (.cells cur 3 f) := by
      obtain ⟨cs, hcs⟩ := C2.out.cblk
      simp [hcs]
    have B3 := Lib.hid (o3.get B2.out hPC)
    have S3 := Lib.hid (S2.out.keep o3 hni)
    have O3 := Lib.hid (O2.out.trans (o3.below (B := B) (Nat.le_trans C2.out.base.2.1 (Nat.le_of_lt C2.out.lt)) (by intro x hx; simp at hx; subst hx; exact C2.out.base.2.1)))
    have hY := yesC (L who) who whom (mb1 who) (s1.ld who) p W3 (c3.lds who h0) HPP.out HPH.out h1 hsd
    have C3 := Lib.hid c3
    clear c3 o3 hPC hni q0 q1 q2 q3 q4 Q6 l2 f2 d0 d1 d2 hlt hfz hch B2 S2 O2 C2
    by_cases hc : 2 ≤ cnt (orB (s1.ld who).sd whom)
    · simp only [hc, decide_true, if_true] at hY
      have hY' := Lib.hid hY
      have HC := Lib.hid hc
      clear hY hc
      go_wp2_with fail
      refine hY'.out.mono ?_
      rintro e w4 ⟨rfl, hl4, ho4⟩
      have c4 := C3.out.lead who h0 ho4 (by simp) (mb1 who) (.inl rfl) _ hl4 (fun _ => C3.out.act who h0 (by rw [HPH.out]; decide))
      have hPL : PBv ∉ [L who] := by
        obtain ⟨pd, hx, _⟩ := C3.out.lds who h0
        intro hy
        simp at hy
        unfold LB at hx
        rw [← hy, B3.out] at hx
        simp at hx
      have b4 := ho4.get B3.out hPL
      have s4 := S3.out.mut ho4 (C3.out.muts who h0 (by simp))
      obtain ⟨l2, f2, d0, d1, d2⟩ := blk3 b4
      obtain ⟨g', cap', hg', _, hgc⟩ := s4.one
      simp only [Value.slice.injEq, Option.some.injEq, Addr.mk.injEq] at hg'
      obtain ⟨⟨rfl, _, _⟩, _, rfl⟩ := hg'
      have hlt := c4.lt
      have hfz := c4.free
      have hch := c4.chs
      have O4 := Lib.hid (O3.out.trans (ho4.below (B := B) (Nat.le_trans C3.out.base.2.1 (Nat.le_of_lt C3.out.lt)) (by intro x hx; simp at hx; subst hx; exact C3.out.base.2.2.1 who h0)))
      have C4 := Lib.hid c4
      clear c4 hl4 ho4 hPL b4 s4 hY' B3 S3 O3 C3
      go_wp2_with fail
      by_cases hz : s1.ch = 0
      · have hz' : (s1.ch != 0) = false := by simp [hz]
        clear hz
        go_quiet (fail)
        go_wp2_with fail
        go_ret
        have hch' := (C4.out.keep0 ((Only.refl [] w4).drewN nq)).choose p
        rw [setCell_drewN] at hch'
        refine ⟨put mb1 who (mb1 who), rfl, ?_, O4.out.trans ((((Only.refl [] w4).drewN nq).mono (bs' := [C]) (by simp)).trans hch'.2 (by simp) |>.below (Nat.le_trans C4.out.base.2.1 (Nat.le_of_lt C4.out.lt)) (by intro x hx; simp at hx; subst hx; exact C4.out.base.2.1))⟩
        have e1 : tell s1 who whom p = { { { s1 with pr := put s1.pr whom (s1.ld who).bal, vb := put s1.vb whom (s1.ld who).bal, vv := put s1.vv whom p } with ld := put s1.ld who { s1.ld who with frm := 2, pend := none, sd := orB (s1.ld who).sd whom } } with ch := p } := by
          simp only [tell, if_neg (Int.not_lt.2 hb'), voted1, if_pos HC.out]
        rw [e1]
        exact hch'.1
      · have hz' : (s1.ch != 0) = true := by simp [hz]
        have hz2 : (s1.ch != p) = false := by simp [HAG.out hb' HC.out hz]
        have HZ := Lib.hid hz
        clear hz
        go_quiet (fail)
        go_wp2_with fail
        go_ret
        have hch' := (C4.out.keep0 ((Only.refl [] w4).drewN nq)).choose p
        rw [setCell_drewN] at hch'
        refine ⟨put mb1 who (mb1 who), rfl, ?_, O4.out.trans ((((Only.refl [] w4).drewN nq).mono (bs' := [C]) (by simp)).trans hch'.2 (by simp) |>.below (Nat.le_trans C4.out.base.2.1 (Nat.le_of_lt C4.out.lt)) (by intro x hx; simp at hx; subst hx; exact C4.out.base.2.1))⟩
        have e1 : tell s1 who whom p = { { { s1 with pr := put s1.pr whom (s1.ld who).bal, vb := put s1.vb whom (s1.ld who).bal, vv := put s1.vv whom p } with ld := put s1.ld who { s1.ld who with frm := 2, pend := none, sd := orB (s1.ld who).sd whom } } with ch := p } := by
          simp only [tell, if_neg (Int.not_lt.2 hb'), voted1, if_pos HC.out]
        rw [e1]
        exact hch'.1
    · simp only [hc, decide_false, if_false] at hY
      have hY' := Lib.hid hY
      have HC := Lib.hid hc
      clear hY hc
      go_wp2_with fail
      refine hY'.out.mono ?_
      rintro e w4 ⟨rfl, hl4, ho4⟩
      have c4 := C3.out.lead who h0 ho4 (by simp) (mb1 who) (.inl rfl) _ hl4 (fun _ => C3.out.act who h0 (by rw [HPH.out]; decide))
      have hPL : PBv ∉ [L who] := by
        obtain ⟨pd, hx, _⟩ := C3.out.lds who h0
        intro hy
        simp at hy
        unfold LB at hx
        rw [← hy, B3.out] at hx
        simp at hx
      have b4 := ho4.get B3.out hPL
      obtain ⟨l2, f2, d0, d1, d2⟩ := blk3 b4
      have O4 := Lib.hid (O3.out.trans (ho4.below (B := B) (Nat.le_trans C3.out.base.2.1 (Nat.le_of_lt C3.out.lt)) (by intro x hx; simp at hx; subst hx; exact C3.out.base.2.2.1 who h0)))
      have C4 := Lib.hid c4
      clear c4 hl4 ho4 hPL b4 hY' B3 S3 O3 C3
      go_wp2_with fail
      go_ret
      refine ⟨put mb1 who (mb1 who), rfl, ?_, O4.out⟩
      have e1 : tell s1 who whom p = { { s1 with pr := put s1.pr whom (s1.ld who).bal, vb := put s1.vb whom (s1.ld who).bal, vv := put s1.vv whom p } with ld := put s1.ld who { s1.ld who with sd := orB (s1.ld who).sd whom } } := by
        simp only [tell, if_neg (Int.not_lt.2 hb'), voted1, if_neg HC.out]
      rw [e1]
      exact C4.out

set_option maxHeartbeats 4000000 in
set_option maxRecDepth 100000 in
theorem proposes_no (B C who whom : Nat) (L : Nat → Nat) (mb : Nat → Option Nat) (st : Cn) (w : World) (h : CM w B C L mb st) (h0 : who < 3) (hpn : (st.ld who).pend = none) (hm : ¬ may (st.ld who)) :
    Calls Tryd.prog 11 #[.pointer (some ⟨C, 0, none⟩), .int .i64 who, .int .i64 whom] w (Said st B C L w) := by
  have p0 := h.ptr who h0
  have hP := Lib.hid (pendingC0 (L who) who (mb who) (st.ld who) w (h.lds who h0) hpn)
  have H := Lib.hid h
  have HPN := Lib.hid hpn
  have HMY := Lib.hid hm
  clear h hpn hm
  go_enter Tryd.func11, Tryd.ntmps11
  go_wp2_with fail
  refine hP.out.mono ?_
  rintro e w1 ⟨rfl, ho⟩
  have HO := Lib.hid ho
  clear ho hP
  go_wp2_with fail
  refine (conf_any 1 (10 + (who : Int)) _).mono ?_
  rintro e w2 ⟨c, rfl, hcf, ho⟩
  have o2 : Only [] w w2 := (HO.out.trans ((Only.refl [] w1).alloc _) (by simp)).trans ho (by simp)
  have c2 := H.out.keep0 o2
  have hPr : Hid (∃ r : Int, (r != 0) = true ∧ Calls Tryd.prog 22 #[.pointer (some ⟨L who, 0, none⟩), c] w2 fun e w' => e = .returned (.tuple #[zeroConf, .int .i64 r]) ∧ Only [] w2 w') := by
    by_cases hph : (st.ld who).ph = 2
    · refine ⟨2, rfl, proposeC1 (L who) who (mb who) (st.ld who) c _ w2 (c2.lds who h0) hcf hph HPN.out ?_⟩
      have := HMY.out
      unfold may at this
      omega
    · exact ⟨170, rfl, proposeC0 (L who) who (mb who) (st.ld who) c _ w2 (c2.lds who h0) hcf hph⟩
  obtain ⟨r, hr, hc⟩ := hPr.out
  have hr' : (r == 0) = false := by simpa using hr
  obtain ⟨s, rfl, hs⟩ := hcf
  obtain ⟨g, cap, rfl, _, _⟩ := hs.one
  have HC := Lib.hid hc
  have O2 := Lib.hid o2
  have C2 := Lib.hid c2
  clear hc hPr hs ho o2 c2 HO
  go_wp2_with fail
  refine HC.out.mono ?_
  rintro e w3 ⟨rfl, ho3⟩
  have O3 := Lib.hid ho3
  clear ho3
  go_wp2_with fail
  go_ret
  have oA := (Only.refl [] w3).alloc (.cells #[.int .i64 0, .int .i64 0, .slice none 0 0] 29)
  exact ⟨mb, rfl, (C2.out.keep0 O3.out).keep0 oA, ((O2.out.trans O3.out (by simp)).trans oA (by simp)).below (Nat.le_trans H.out.base.2.1 (Nat.le_of_lt H.out.lt)) (by simp)⟩

/-- PROPOSING. -/
theorem proposes_any (B C who whom : Nat) (L : Nat → Nat) (mb : Nat → Option Nat) (st : Cn) (w : World) (h : CM w B C L mb st) (h0 : who < 3) (h1 : whom < 3)
    (hpd : ∀ p, (st.ld who).pend = some p → (st.ld who).ph = 2 ∧ (st.ld who).sd < 8 ∧ (st.pr whom ≤ (st.ld who).bal → 2 ≤ cnt (orB (st.ld who).sd whom) → st.ch ≠ 0 → st.ch = p)) :
    Calls Tryd.prog 11 #[.pointer (some ⟨C, 0, none⟩), .int .i64 who, .int .i64 whom] w (Said (say st who whom) B C L w) := by
  cases hp : (st.ld who).pend with
  | some p =>
    have e : say st who whom = tell st who whom p := by unfold say; rw [hp]
    rw [e]
    obtain ⟨a, b, c⟩ := hpd p hp
    exact proposes_pend B C who whom L mb st w h h0 h1 p hp a b c
  | none =>
    by_cases hm : may (st.ld who)
    · have e : say st who whom = tell { st with ld := put st.ld who (proposed (st.ld who) (toSay (st.ld who) who)) } who whom (toSay (st.ld who) who) := by unfold say; rw [hp]; simp only [if_pos hm]
      rw [e]
      exact proposes_new B C who whom L mb st w h h0 h1 hp hm _ rfl _ rfl
    · have e : say st who whom = st := by unfold say; rw [hp]; simp only [if_neg hm]
      rw [e]
      exact proposes_no B C who whom L mb st w h h0 hp hm

end Go.Proofs.YtlmkiekdkonofaaDoor
