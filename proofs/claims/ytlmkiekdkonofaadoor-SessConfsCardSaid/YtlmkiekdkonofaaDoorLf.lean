/-
  Propose of a leader: the two refusals, and the proposal, bound and not.
-/
import Derived.Test.YtlmkiekdkonofaaDoorLe
import Derived.Deep.QuietTactic
import Derived.BigQuiet
namespace Go.Proofs.YtlmkiekdkonofaaDoor
open Go.RowKit Go.ChangeMaps
attribute [local go_sem] alloc_drewN setCell_drewN

set_option maxHeartbeats 1000000 in
set_option maxRecDepth 100000 in
theorem proposeE (L : Nat) (n v ph : Int) (c : Value) (w : World) (h3 : w.cell? ⟨L, 3, none⟩ = some (.int .i64 ph)) (h8 : w.cell? ⟨L, 8, none⟩ = some (.bool true)) (hph : (ph != 2) = true) (hc : Conf1 w c n v) :
    Calls Tryd.prog 22 #[.pointer (some ⟨L, 0, none⟩), c] w fun e w' => e = .returned (.tuple #[zeroConf, .int .i64 170]) ∧ Only [] w w' := by
  have hlt : L < w.heap.size := World.block_lt_of_cell? _ _ h3
  obtain ⟨s, rfl, hs⟩ := hc
  obtain ⟨g, cap, rfl, _, _⟩ := hs.one
  have HN := Lib.hid (none_any L ((w.alloc (.cells #[.int .i64 n, .int .i64 1, .slice (some ⟨g, 0, none⟩) 1 cap] 29)).alloc (.cells #[.int .i64 0, .int .i64 0, .slice none 0 0] 29)) (cell_alloc_l _ (cell_alloc_l _ h8)))
  clear hs
  go_enter Tryd.func22, Tryd.ntmps22
  go_wp2_with fail
  refine HN.out.mono ?_
  rintro e w1 ⟨rfl, rfl⟩
  clear HN
  go_wp2_with fail
  refine bodyPost_ret (v := .tuple #[zeroConf, .int .i64 170]) ?_ rfl ⟨rfl, ?_⟩
  · simp [results, Tryd.results22, go_sem]
  · repeat' (first | with_reducible assumption | with_reducible refine Only.alloc ?_ _ | with_reducible refine Only.drew ?_ | with_reducible refine Only.drewN ?_ _ | with_reducible refine Only.setCell ?_ _ _ _ (by simp) | with_reducible exact Only.refl _ _)

set_option maxHeartbeats 1000000 in
set_option maxRecDepth 100000 in
theorem proposeA (L : Nat) (n v frm : Int) (c : Value) (w : World) (h2 : w.cell? ⟨L, 2, none⟩ = some (.int .i64 frm)) (h3 : w.cell? ⟨L, 3, none⟩ = some (.int .i64 2)) (h6 : w.cell? ⟨L, 6, none⟩ = some (.pointer none)) (h8 : w.cell? ⟨L, 8, none⟩ = some (.bool true)) (hf : n < frm) (hc : Conf1 w c n v) :
    Calls Tryd.prog 22 #[.pointer (some ⟨L, 0, none⟩), c] w fun e w' => e = .returned (.tuple #[zeroConf, .int .i64 2]) ∧ Only [] w w' := by
  have hlt : L < w.heap.size := World.block_lt_of_cell? _ _ h3
  obtain ⟨s, rfl, hs⟩ := hc
  obtain ⟨g, cap, rfl, _, _⟩ := hs.one
  have HN := Lib.hid (none_any L ((w.alloc (.cells #[.int .i64 n, .int .i64 1, .slice (some ⟨g, 0, none⟩) 1 cap] 29)).alloc (.cells #[.int .i64 0, .int .i64 0, .slice none 0 0] 29)) (cell_alloc_l _ (cell_alloc_l _ h8)))
  clear hs
  go_enter Tryd.func22, Tryd.ntmps22
  go_wp2_with fail
  refine HN.out.mono ?_
  rintro e w1 ⟨rfl, rfl⟩
  clear HN
  go_wp2_with fail
  go_quiet (fail)
  go_wp2_with fail
  refine bodyPost_ret (v := .tuple #[zeroConf, .int .i64 2]) ?_ rfl ⟨rfl, ?_⟩
  · simp [results, Tryd.results22, go_sem]
  · repeat' (first | with_reducible assumption | with_reducible refine Only.alloc ?_ _ | with_reducible refine Only.drew ?_ | with_reducible refine Only.drewN ?_ _ | with_reducible refine Only.setCell ?_ _ _ _ (by simp) | with_reducible exact Only.refl _ _)

/-- What a proposal that succeeds leaves: the proposal's config, the leader with a pending config of its own. -/
def Proposed (L : Nat) (id bal frm : Int) (pm : Nat) (mp : Option Nat) (n v : Int) (w : World) (e : Ending) (w' : World) : Prop :=
  ∃ c Pb cs, e = .returned (.tuple #[c, .int .i64 0]) ∧ Conf1 w' c n v ∧ LB w' L id bal frm 2 pm mp (some ⟨Pb, 0, none⟩) 0 ∧ w'.heap[Pb]? = some (.cells cs 29 (0, 0)) ∧ Conf1 w' (.agg cs) n v ∧ w.heap.size ≤ Pb ∧ Only [L] w w'

set_option maxHeartbeats 4000000 in
set_option maxRecDepth 100000 in
theorem propose0 (L M : Nat) (n v id bal frm : Int) (pm sd : Nat) (c : Value) (w : World) (hL : LB w L id bal frm 2 pm (some M) none sd) (hM : MB0 w M) (hf : frm ≤ n) (hc : Conf1 w c n v) :
    Calls Tryd.prog 22 #[.pointer (some ⟨L, 0, none⟩), c] w (Proposed L id bal frm pm (some M) n v w) := by
  obtain ⟨hlt, hfz, c0, c1, c2, c3, c4, c5, c6, c7, c8⟩ := hL.facts
  obtain ⟨s, rfl, hs⟩ := hc
  obtain ⟨g, cap, rfl, _, _⟩ := hs.one
  have HN := Lib.hid (none_any L ((w.alloc (.cells #[.int .i64 n, .int .i64 1, .slice (some ⟨g, 0, none⟩) 1 cap] 29)).alloc (.cells #[.int .i64 0, .int .i64 0, .slice none 0 0] 29)) (cell_alloc_l _ (cell_alloc_l _ c8)))
  have HL := Lib.hid hL
  have HS := Lib.hid hs
  have HM := Lib.hid hM
  clear hs hL hM
  go_enter Tryd.func22, Tryd.ntmps22
  go_wp2_with fail
  refine HN.out.mono ?_
  rintro e w1 ⟨rfl, rfl⟩
  clear HN
  go_wp2_with fail
  go_quiet (fail)
  go_wp2_with fail
  -- the world ahead of Bound
  have n2 := new_two w (.cells #[.int .i64 n, .int .i64 1, .slice (some ⟨g, 0, none⟩) 1 cap] 29) (.cells #[.int .i64 0, .int .i64 0, .slice none 0 0] 29)
  have o1 : Only [] w ((w.alloc (.cells #[.int .i64 n, .int .i64 1, .slice (some ⟨g, 0, none⟩) 1 cap] 29)).alloc (.cells #[.int .i64 0, .int .i64 0, .slice none 0 0] 29)) := ((Only.refl [] w).alloc _).alloc _
  obtain ⟨W1, hW1⟩ : ∃ W1, W1 = (w.alloc (.cells #[.int .i64 n, .int .i64 1, .slice (some ⟨g, 0, none⟩) 1 cap] 29)).alloc (.cells #[.int .i64 0, .int .i64 0, .slice none 0 0] 29) := ⟨_, rfl⟩
  rw [← hW1] at n2 o1 ⊢
  clear hW1
  have L1 : LB W1 L id bal frm 2 pm (some M) none sd := o1.get0 HL.out
  have o1' : Only [] w (W1.drewN nq) := o1.drewN nq
  have L1f := L1.facts
  have bb := Lib.hid (bound0 L M n (W1.drewN nq) L1f.2.2.2.2.2.2.2.1 L1f.2.2.2.2.2.2.2.2.2.2 (let ⟨k, hk⟩ := HM.out; ⟨k, o1'.get0 hk⟩))
  have N2 := Lib.hid n2
  have O1 := Lib.hid o1'
  have LL1 := Lib.hid L1
  clear n2 o1 o1' L1 L1f c0 c1 c2 c3 c4 c5 c6 c7 c8 hfz hlt
  refine bb.out.mono ?_
  clear bb
  rintro e w2 ⟨rfl, ho⟩
  -- behind Bound
  have b0 : w2.heap[w.heap.size]? = _ := ho.get0 N2.out.1
  have b1 : w2.heap[w.heap.size + 1]? = _ := ho.get0 N2.out.2
  have L2 : LB w2 L id bal frm 2 pm (some M) none sd := ho.get0 LL1.out
  have o2 : Only [] w w2 := O1.out.trans ho (by simp)
  clear N2 LL1 O1 ho
  have S2 := Lib.hid (HS.out.keep0 o2)
  obtain ⟨l0, f0, c00, c01, c02⟩ := blk3 b0
  have O2 := Lib.hid o2
  have HB0 := Lib.hid b0
  have HB1 := Lib.hid b1
  have HL2 := Lib.hid L2
  clear o2 b0 b1 L2
  go_wp2_with fail
  have ov : Only [] w2 (w2.alloc (.cells #[.int .i64 0, .int .i64 0, .slice none 0 0] 29)) := (Only.refl [] w2).alloc _
  have HSV := Lib.hid (S2.out.keep0 ov)
  have HV0 := Lib.hid (ov.get0 HB0.out)
  have HV1 := Lib.hid (ov.get0 HB1.out)
  have HVL := Lib.hid (ov.get0 HL2.out)
  have OV := Lib.hid (O2.out.trans ov (by simp))
  clear ov O2 HB0 HB1 HL2 S2
  refine (copied1 _ n v _ ⟨_, rfl, HSV.out⟩).mono ?_
  rintro e w3 ⟨c3, rfl, ⟨s3, rfl, hs3⟩, ho⟩
  clear l0 f0 c00 c01 c02
  obtain ⟨g3, cap3, rfl, _, _⟩ := hs3.one
  have b0 : w3.heap[w.heap.size]? = _ := ho.get0 HV0.out
  have b1 : w3.heap[w.heap.size + 1]? = _ := ho.get0 HV1.out
  have L3 : LB w3 L id bal frm 2 pm (some M) none sd := ho.get0 HVL.out
  have o3 : Only [] w w3 := OV.out.trans ho (by simp)
  have SV := Lib.hid (HSV.out.keep0 ho)
  clear ho OV HSV HV0 HV1 HVL
  obtain ⟨l0, f0, c00, c01, c02⟩ := blk3 b0
  obtain ⟨l1, f1, c10, c11, c12⟩ := blk3 b1
  obtain ⟨hlt, hfz, c0, c1, c2, c3, c4, c5, c6, c7, c8⟩ := L3.facts
  have hne0 : L ≠ w.heap.size := by have := hp_lt HL.out; omega
  have hne1 : L ≠ w.heap.size + 1 := by have := hp_lt HL.out; omega
  have NE := Lib.hid (And.intro hne0 hne1)
  have O3 := Lib.hid o3
  have HS3 := Lib.hid hs3
  have B0 := Lib.hid b0
  have B1 := Lib.hid b1
  have HL3 := Lib.hid L3
  clear o3 hs3 b0 b1 L3 hne0 hne1
  go_wp2_with fail
  -- the leader has its pending config
  obtain ⟨W4, hW4⟩ : ∃ W4, W4 = (((w3.setCell ⟨L, 6, none⟩ (.pointer (some ⟨w3.heap.size, 0, none⟩))).setCell ⟨L, 7, none⟩ (.int .u64 0)).alloc (.cells #[.int .i64 n, .int .i64 1, .slice (some ⟨g3, 0, none⟩) 1 cap3] 29)) := ⟨_, rfl⟩
  rw [← hW4]
  have L4 : LB W4 L id bal frm 2 pm (some M) (some ⟨w3.heap.size, 0, none⟩) 0 := by
    have h1 := HL3.out
    unfold LB at h1 ⊢
    rw [hW4, Below.heap_alloc _ _ _ (by simpa using hp_lt h1)]
    simp [hp_set, h1, setc]
  have o4 : Only [L] w3 W4 := by
    rw [hW4]
    repeat' (first | with_reducible assumption | with_reducible refine Only.alloc ?_ _ | with_reducible refine Only.drew ?_ | with_reducible refine Only.drewN ?_ _ | with_reducible refine Only.setCell ?_ _ _ _ (by simp) | with_reducible exact Only.refl _ _)
  have P4 : W4.heap[w3.heap.size]? = some (.cells #[.int .i64 n, .int .i64 1, .slice (some ⟨g3, 0, none⟩) 1 cap3] 29) := by
    rw [hW4, hp_alloc, if_pos (by simp)]
  clear hW4
  have q0 : W4.heap[w.heap.size]? = _ := o4.get B0.out (by simpa using (fun e => NE.out.1 e.symm))
  have q1 : W4.heap[w.heap.size + 1]? = _ := o4.get B1.out (by simpa using (fun e => NE.out.2 e.symm))
  have hni : ∀ b ∈ [L], ∀ cur f, w3.heap[b]? ≠ some (.cells cur 3 f) := by
    have h1 := HL3.out
    unfold LB at h1
    simp [h1]
  have s4 := HS3.out.keep o4 hni
  have t4 := SV.out.keep o4 hni
  have O4 := Lib.hid (O3.out.mono (bs' := [L]) (by simp) |>.trans o4 (by simp))
  have HS4 := Lib.hid s4
  have HT4 := Lib.hid t4
  have HL4 := Lib.hid L4
  have HP4 := Lib.hid P4
  have HQ1 := Lib.hid q1
  clear o4 P4 q0 q1 hni s4 t4 L4 l0 f0 c00 c01 c02 l1 f1 c10 c11 c12 hlt hfz c0 c1 c2 c3 c4 c5 c6 c7 c8
  refine (copied1 _ n v _ ⟨_, rfl, HT4.out⟩).mono ?_
  rintro e w5 ⟨c5, rfl, ⟨s5, rfl, hs5⟩, ho⟩
  obtain ⟨g5, cap5, rfl, _, _⟩ := hs5.one
  have b1 : w5.heap[w.heap.size + 1]? = _ := ho.get0 HQ1.out
  obtain ⟨l1, f1, c10, c11, c12⟩ := blk3 b1
  have HO5 := Lib.hid ho
  have HS5 := Lib.hid hs5
  have B5 := Lib.hid b1
  clear ho hs5 b1
  go_wp2_with fail
  have hq3 := hp_lt B1.out
  have hneL : L ≠ w.heap.size + 1 := NE.out.2
  have hnq : ∀ b ∈ [w.heap.size + 1], ∀ cur f, w5.heap[b]? ≠ some (.cells cur 3 f) := by simp [B5.out]
  refine bodyPost_ret (v := .tuple #[.agg #[.int .i64 n, .int .i64 1, .slice (some ⟨g5, 0, none⟩) 1 cap5], .int .i64 0]) ?_ rfl ⟨_, w3.heap.size, #[.int .i64 n, .int .i64 1, .slice (some ⟨g3, 0, none⟩) 1 cap3], rfl, ⟨_, rfl, ?_⟩, ?_, ?_, ⟨_, rfl, ?_⟩, O3.out.size, ?_⟩
  · simp [results, Tryd.results22, go_sem, c10, c11, c12]
  · refine HS5.out.keep (bs := [w.heap.size + 1]) ?_ hnq
    repeat' (first | with_reducible assumption | with_reducible refine Only.alloc ?_ _ | with_reducible refine Only.drew ?_ | with_reducible refine Only.drewN ?_ _ | with_reducible refine Only.setCell ?_ _ _ _ (by simp) | with_reducible exact Only.refl _ _)
  · have h1 : LB w5 L id bal frm 2 pm (some M) (some ⟨w3.heap.size, 0, none⟩) 0 := HO5.out.get0 HL4.out
    unfold LB at h1 ⊢
    simp [hp_set, hneL, h1]
  · have h1 := HO5.out.get0 HP4.out
    have h2 : w3.heap.size ≠ w.heap.size + 1 := by omega
    rw [hp_set, if_neg h2, hp_set, if_neg h2, hp_set, if_neg h2, h1]
  · refine (HS4.out.keep0 HO5.out).keep (bs := [w.heap.size + 1]) ?_ hnq
    repeat' (first | with_reducible assumption | with_reducible refine Only.alloc ?_ _ | with_reducible refine Only.drew ?_ | with_reducible refine Only.drewN ?_ _ | with_reducible refine Only.setCell ?_ _ _ _ (by simp) | with_reducible exact Only.refl _ _)
  · have h1 := O4.out.trans HO5.out (by simp)
    repeat' (first | with_reducible assumption | with_reducible refine Only.alloc ?_ _ | with_reducible refine Only.drew ?_ | with_reducible refine Only.drewN ?_ _ | with_reducible refine Only.setCell ?_ _ _ _ (by simp) | with_reducible exact Only.refl _ _)

set_option maxHeartbeats 4000000 in
set_option maxRecDepth 100000 in
theorem propose1 (L M : Nat) (n vb u v id bal frm : Int) (pm sd : Nat) (c : Value) (w : World) (hL : LB w L id bal frm 2 pm (some M) none sd) (hM : MB1 w M n vb v) (hf : frm ≤ n) (hc : Conf1 w c n u) :
    Calls Tryd.prog 22 #[.pointer (some ⟨L, 0, none⟩), c] w (Proposed L id bal frm pm (some M) n v w) := by
  obtain ⟨hlt, hfz, c0, c1, c2, c3, c4, c5, c6, c7, c8⟩ := hL.facts
  obtain ⟨s, rfl, hs⟩ := hc
  obtain ⟨g, cap, rfl, _, _⟩ := hs.one
  have HN := Lib.hid (none_any L ((w.alloc (.cells #[.int .i64 n, .int .i64 1, .slice (some ⟨g, 0, none⟩) 1 cap] 29)).alloc (.cells #[.int .i64 0, .int .i64 0, .slice none 0 0] 29)) (cell_alloc_l _ (cell_alloc_l _ c8)))
  have HL := Lib.hid hL
  have HS := Lib.hid hs
  have HM := Lib.hid hM
  clear hs hL hM
  go_enter Tryd.func22, Tryd.ntmps22
  go_wp2_with fail
  refine HN.out.mono ?_
  rintro e w1 ⟨rfl, rfl⟩
  clear HN
  go_wp2_with fail
  go_quiet (fail)
  go_wp2_with fail
  -- the world ahead of Bound
  have n2 := new_two w (.cells #[.int .i64 n, .int .i64 1, .slice (some ⟨g, 0, none⟩) 1 cap] 29) (.cells #[.int .i64 0, .int .i64 0, .slice none 0 0] 29)
  have o1 : Only [] w ((w.alloc (.cells #[.int .i64 n, .int .i64 1, .slice (some ⟨g, 0, none⟩) 1 cap] 29)).alloc (.cells #[.int .i64 0, .int .i64 0, .slice none 0 0] 29)) := ((Only.refl [] w).alloc _).alloc _
  obtain ⟨W1, hW1⟩ : ∃ W1, W1 = (w.alloc (.cells #[.int .i64 n, .int .i64 1, .slice (some ⟨g, 0, none⟩) 1 cap] 29)).alloc (.cells #[.int .i64 0, .int .i64 0, .slice none 0 0] 29) := ⟨_, rfl⟩
  rw [← hW1] at n2 o1 ⊢
  clear hW1
  have L1 : LB W1 L id bal frm 2 pm (some M) none sd := o1.get0 HL.out
  have o1' : Only [] w (W1.drewN nq) := o1.drewN nq
  have L1f := L1.facts
  have bb := Lib.hid (bound1 L M n vb v (W1.drewN nq) L1f.2.2.2.2.2.2.2.1 L1f.2.2.2.2.2.2.2.2.2.2 (let ⟨s, b, k, hk, hi⟩ := HM.out; ⟨s, b, k, o1'.get0 hk, hi.keep0 o1'⟩))
  have N2 := Lib.hid n2
  have O1 := Lib.hid o1'
  have LL1 := Lib.hid L1
  clear n2 o1 o1' L1 L1f c0 c1 c2 c3 c4 c5 c6 c7 c8 hfz hlt
  refine bb.out.mono ?_
  clear bb
  rintro e w2 ⟨cb, rfl, ⟨sb, rfl, hsb⟩, ho⟩
  obtain ⟨gb, capb, rfl, _, _⟩ := hsb.one
  have HSB := Lib.hid hsb
  clear hsb
  -- behind Bound
  have b0 : w2.heap[w.heap.size]? = _ := ho.get0 N2.out.1
  have b1 : w2.heap[w.heap.size + 1]? = _ := ho.get0 N2.out.2
  have L2 : LB w2 L id bal frm 2 pm (some M) none sd := ho.get0 LL1.out
  have o2 : Only [] w w2 := O1.out.trans ho (by simp)
  clear N2 LL1 O1 ho
  have S2 := Lib.hid HSB.out
  clear HSB
  obtain ⟨l0, f0, c00, c01, c02⟩ := blk3 b0
  have O2 := Lib.hid o2
  have HB0 := Lib.hid b0
  have HB1 := Lib.hid b1
  have HL2 := Lib.hid L2
  clear o2 b0 b1 L2
  go_wp2_with fail
  obtain ⟨WV, hWV⟩ : ∃ WV, WV = (((w2.setCell ⟨w.heap.size, 0, none⟩ (.int .i64 n)).setCell ⟨w.heap.size, 1, none⟩ (.int .i64 1)).setCell ⟨w.heap.size, 2, none⟩ (.slice (some ⟨gb, 0, none⟩) 1 capb)).alloc (.cells #[.int .i64 n, .int .i64 1, .slice (some ⟨gb, 0, none⟩) 1 capb] 29) := ⟨_, rfl⟩
  rw [← hWV]
  have ov : Only [w.heap.size] w2 WV := by
    rw [hWV]
    repeat' (first | with_reducible assumption | with_reducible refine Only.alloc ?_ _ | with_reducible refine Only.drew ?_ | with_reducible refine Only.drewN ?_ _ | with_reducible refine Only.setCell ?_ _ _ _ (by simp) | with_reducible exact Only.refl _ _)
  have hv0 : WV.heap[w.heap.size]? = some (.cells #[.int .i64 n, .int .i64 1, .slice (some ⟨gb, 0, none⟩) 1 capb] 29) := by
    rw [hWV, Below.heap_alloc _ _ _ (by simpa using hp_lt HB0.out)]
    simp [hp_set, HB0.out, setc]
  clear hWV
  have hneL : L ≠ w.heap.size := by have := hp_lt HL.out; omega
  have HSV := Lib.hid (S2.out.keep ov (by simp [HB0.out]))
  have HV0 := Lib.hid hv0
  have HV1 := Lib.hid (ov.get HB1.out (by simp))
  have HVL := Lib.hid (ov.get HL2.out (by simpa using hneL))
  have OV := Lib.hid (O2.out.trans ov (by simp))
  clear ov hv0 hneL O2 HB0 HB1 HL2 S2
  refine (copied1 _ n v _ ⟨_, rfl, HSV.out⟩).mono ?_
  rintro e w3 ⟨c3, rfl, ⟨s3, rfl, hs3⟩, ho⟩
  clear l0 f0 c00 c01 c02
  obtain ⟨g3, cap3, rfl, _, _⟩ := hs3.one
  have b0 : w3.heap[w.heap.size]? = _ := ho.get0 HV0.out
  have b1 : w3.heap[w.heap.size + 1]? = _ := ho.get0 HV1.out
  have L3 : LB w3 L id bal frm 2 pm (some M) none sd := ho.get0 HVL.out
  have o3 : Only [] w w3 := OV.out.trans ho (by simp)
  have SV := Lib.hid (HSV.out.keep0 ho)
  clear ho OV HSV HV0 HV1 HVL
  obtain ⟨l0, f0, c00, c01, c02⟩ := blk3 b0
  obtain ⟨l1, f1, c10, c11, c12⟩ := blk3 b1
  obtain ⟨hlt, hfz, c0, c1, c2, c3, c4, c5, c6, c7, c8⟩ := L3.facts
  have hne0 : L ≠ w.heap.size := by have := hp_lt HL.out; omega
  have hne1 : L ≠ w.heap.size + 1 := by have := hp_lt HL.out; omega
  have NE := Lib.hid (And.intro hne0 hne1)
  have O3 := Lib.hid o3
  have HS3 := Lib.hid hs3
  have B0 := Lib.hid b0
  have B1 := Lib.hid b1
  have HL3 := Lib.hid L3
  clear o3 hs3 b0 b1 L3 hne0 hne1
  go_wp2_with fail
  -- the leader has its pending config
  obtain ⟨W4, hW4⟩ : ∃ W4, W4 = (((w3.setCell ⟨L, 6, none⟩ (.pointer (some ⟨w3.heap.size, 0, none⟩))).setCell ⟨L, 7, none⟩ (.int .u64 0)).alloc (.cells #[.int .i64 n, .int .i64 1, .slice (some ⟨g3, 0, none⟩) 1 cap3] 29)) := ⟨_, rfl⟩
  rw [← hW4]
  have L4 : LB W4 L id bal frm 2 pm (some M) (some ⟨w3.heap.size, 0, none⟩) 0 := by
    have h1 := HL3.out
    unfold LB at h1 ⊢
    rw [hW4, Below.heap_alloc _ _ _ (by simpa using hp_lt h1)]
    simp [hp_set, h1, setc]
  have o4 : Only [L] w3 W4 := by
    rw [hW4]
    repeat' (first | with_reducible assumption | with_reducible refine Only.alloc ?_ _ | with_reducible refine Only.drew ?_ | with_reducible refine Only.drewN ?_ _ | with_reducible refine Only.setCell ?_ _ _ _ (by simp) | with_reducible exact Only.refl _ _)
  have P4 : W4.heap[w3.heap.size]? = some (.cells #[.int .i64 n, .int .i64 1, .slice (some ⟨g3, 0, none⟩) 1 cap3] 29) := by
    rw [hW4, hp_alloc, if_pos (by simp)]
  clear hW4
  have q0 : W4.heap[w.heap.size]? = _ := o4.get B0.out (by simpa using (fun e => NE.out.1 e.symm))
  have q1 : W4.heap[w.heap.size + 1]? = _ := o4.get B1.out (by simpa using (fun e => NE.out.2 e.symm))
  have hni : ∀ b ∈ [L], ∀ cur f, w3.heap[b]? ≠ some (.cells cur 3 f) := by
    have h1 := HL3.out
    unfold LB at h1
    simp [h1]
  have s4 := HS3.out.keep o4 hni
  have t4 := SV.out.keep o4 hni
  have O4 := Lib.hid (O3.out.mono (bs' := [L]) (by simp) |>.trans o4 (by simp))
  have HS4 := Lib.hid s4
  have HT4 := Lib.hid t4
  have HL4 := Lib.hid L4
  have HP4 := Lib.hid P4
  have HQ1 := Lib.hid q1
  clear o4 P4 q0 q1 hni s4 t4 L4 l0 f0 c00 c01 c02 l1 f1 c10 c11 c12 hlt hfz c0 c1 c2 c3 c4 c5 c6 c7 c8
  refine (copied1 _ n v _ ⟨_, rfl, HT4.out⟩).mono ?_
  rintro e w5 ⟨c5, rfl, ⟨s5, rfl, hs5⟩, ho⟩
  obtain ⟨g5, cap5, rfl, _, _⟩ := hs5.one
  have b1 : w5.heap[w.heap.size + 1]? = _ := ho.get0 HQ1.out
  obtain ⟨l1, f1, c10, c11, c12⟩ := blk3 b1
  have HO5 := Lib.hid ho
  have HS5 := Lib.hid hs5
  have B5 := Lib.hid b1
  clear ho hs5 b1
  go_wp2_with fail
  have hq3 := hp_lt B1.out
  have hneL : L ≠ w.heap.size + 1 := NE.out.2
  have hnq : ∀ b ∈ [w.heap.size + 1], ∀ cur f, w5.heap[b]? ≠ some (.cells cur 3 f) := by simp [B5.out]
  refine bodyPost_ret (v := .tuple #[.agg #[.int .i64 n, .int .i64 1, .slice (some ⟨g5, 0, none⟩) 1 cap5], .int .i64 0]) ?_ rfl ⟨_, w3.heap.size, #[.int .i64 n, .int .i64 1, .slice (some ⟨g3, 0, none⟩) 1 cap3], rfl, ⟨_, rfl, ?_⟩, ?_, ?_, ⟨_, rfl, ?_⟩, O3.out.size, ?_⟩
  · simp [results, Tryd.results22, go_sem, c10, c11, c12]
  · refine HS5.out.keep (bs := [w.heap.size + 1]) ?_ hnq
    repeat' (first | with_reducible assumption | with_reducible refine Only.alloc ?_ _ | with_reducible refine Only.drew ?_ | with_reducible refine Only.drewN ?_ _ | with_reducible refine Only.setCell ?_ _ _ _ (by simp) | with_reducible exact Only.refl _ _)
  · have h1 : LB w5 L id bal frm 2 pm (some M) (some ⟨w3.heap.size, 0, none⟩) 0 := HO5.out.get0 HL4.out
    unfold LB at h1 ⊢
    simp [hp_set, hneL, h1]
  · have h1 := HO5.out.get0 HP4.out
    have h2 : w3.heap.size ≠ w.heap.size + 1 := by omega
    rw [hp_set, if_neg h2, hp_set, if_neg h2, hp_set, if_neg h2, h1]
  · refine (HS4.out.keep0 HO5.out).keep (bs := [w.heap.size + 1]) ?_ hnq
    repeat' (first | with_reducible assumption | with_reducible refine Only.alloc ?_ _ | with_reducible refine Only.drew ?_ | with_reducible refine Only.drewN ?_ _ | with_reducible refine Only.setCell ?_ _ _ _ (by simp) | with_reducible exact Only.refl _ _)
  · have h1 := O4.out.trans HO5.out (by simp)
    repeat' (first | with_reducible assumption | with_reducible refine Only.alloc ?_ _ | with_reducible refine Only.drew ?_ | with_reducible refine Only.drewN ?_ _ | with_reducible refine Only.setCell ?_ _ _ _ (by simp) | with_reducible exact Only.refl _ _)

end Go.Proofs.YtlmkiekdkonofaaDoor
