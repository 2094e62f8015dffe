/-
  Promise of a leader: without votes; with one vote: the first of its number, a greater one, one that is no greater.
-/
import Derived.Test.YtlmkiekdkonofaaDoorLg
namespace Go.Proofs.YtlmkiekdkonofaaDoor
open Go.RowKit Go.ChangeMaps
attribute [local go_sem] alloc_drewN setCell_drewN

theorem Tab.keep {w w' : World} {bs : List Nat} (h : Tab w) (ho : Only bs w w') (hb : 1 ∉ bs) : Tab w' := fun i hi => by
  obtain ⟨q, hq, a, b⟩ := h i hi
  refine ⟨q, ?_, a, b⟩
  rw [World.cell?_of_block (w := w) (ho.block 1 h.lt hb)]
  exact hq

/-- The phase behind a promise. -/
def phB (s : Nat) : Int := if 2 ≤ cnt s then 2 else 1

set_option maxHeartbeats 2000000 in
set_option maxRecDepth 100000 in
theorem promise_nil (L k : Nat) (id bal frm : Int) (pm sd : Nat) (mp : Option Nat) (pd : Option Addr) (w : World) (hL : LB w L id bal frm 1 pm mp pd sd) (hT : Tab w) (hL1 : L ≠ 1) (hk : k < 3) (hpm : pm < 8) :
    Calls Tryd.prog 20 #[.pointer (some ⟨L, 0, none⟩), .int .i64 k, .int .i64 bal, .slice none 0 0] w fun e w' => e = .returned (.tuple #[.bool (decide (2 ≤ cnt (orB pm k))), .int .i64 0]) ∧ LB w' L id bal frm (phB (orB pm k)) (orB pm k) mp pd sd ∧ Only [L] w w' := by
  obtain ⟨hlt, hfz, c0, c1, c2, c3, c4, c5, c6, c7, c8⟩ := hL.facts
  have HM := Lib.hid (master_any L k w c8 (by omega) (by omega))
  have HW := Lib.hid (with_any pm k w hpm hk)
  have ho : Only [L] w (w.setCell ⟨L, 4, none⟩ (.int .u64 (orB pm k : Nat))) := (Only.refl [L] w).setCell _ _ _ (by simp)
  have HE := Lib.hid (enough_any (orB pm k) (orB_lt pm k hpm hk) (w.setCell ⟨L, 4, none⟩ (.int .u64 (orB pm k : Nat))) (hT.keep ho (by simpa using hL1.symm)))
  have L2 : LB (w.setCell ⟨L, 4, none⟩ (.int .u64 (orB pm k : Nat))) L id bal frm 1 (orB pm k) mp pd sd := by
    unfold LB at hL ⊢
    simp [hp_set, hL, setc]
  have HL2 := Lib.hid L2
  have HO := Lib.hid ho
  clear hL ho L2
  by_cases hc : 2 ≤ cnt (orB pm k)
  all_goals
    have HCC := Lib.hid hc
    have hd : decide (2 ≤ cnt (orB pm k)) = (decide (2 ≤ cnt (orB pm k))) := rfl
    simp only [hc, decide_true, decide_false] at hd HE ⊢
    clear hd hc
    go_enter Tryd.func20, Tryd.ntmps20
    go_wp2_with (first | (go_at_call 44; refine HM.out.mono ?_; rintro e w1 ⟨rfl, rfl⟩) | (go_at_call 45; refine HW.out.mono ?_; rintro e w1 ⟨rfl, rfl⟩))
    refine wp_loop_rounds 1 ?_
    rw [rounds_succ]
    go_wp2_with fail
    refine HE.out.mono ?_
    rintro e w2 ⟨rfl, hb⟩
    have o2 : Only [] _ w2 := Only.of_below hb
    have L3 : LB w2 L id bal frm 1 (orB pm k) mp pd sd := o2.get0 HL2.out
    have O2 := Lib.hid (HO.out.trans o2 (by simp))
    have HL3 := Lib.hid L3
    clear c0 c1 c2 c3 c4 c5 c6 c7 c8 hlt hfz
    obtain ⟨hlt, hfz, c0, c1, c2, c3, c4, c5, c6, c7, c8⟩ := L3.facts
    clear hb o2 L3
    go_wp2_with fail
    go_ret2
    refine ⟨rfl, ?_, ?_⟩
    · have h1 := HL3.out
      unfold LB at h1 ⊢
      simp [hp_set, h1, setc, phB, HCC.out]
    · have h1 := O2.out
      repeat' (first | with_reducible assumption | with_reducible refine Only.alloc ?_ _ | with_reducible refine Only.drew ?_ | with_reducible refine Only.drewN ?_ _ | with_reducible refine Only.setCell ?_ _ _ _ (by simp) | with_reducible exact Only.refl _ _)

theorem field31 (w : World) (x y z u : Value) : (Instr.field 31 (.agg #[x, y, z, u]) 0).run Tryd.prog w = .ok x w := by kernel_rfl
/-- The cells of a vote. -/
def VoteAt (w : World) (V : Nat) (vb n : Int) (s : Value) : Prop :=
  w.cell? ⟨V, 0, none⟩ = some (.int .i64 vb) ∧ w.cell? ⟨V, 1, none⟩ = some (.int .i64 n) ∧ w.cell? ⟨V, 2, none⟩ = some (.int .i64 1) ∧ w.cell? ⟨V, 3, none⟩ = some s ∧ V < w.heap.size

theorem blk4 {w : World} {b : Nat} {x y z u : Value} {t : TypeId} (h : w.heap[b]? = some (.cells #[x, y, z, u] t (0, 0))) :
    b < w.heap.size ∧ (∀ i, w.frozen? ⟨b, i, none⟩ = false) ∧ w.cell? ⟨b, 0, none⟩ = some x ∧ w.cell? ⟨b, 1, none⟩ = some y ∧ w.cell? ⟨b, 2, none⟩ = some z ∧ w.cell? ⟨b, 3, none⟩ = some u :=
  ⟨hp_lt h, fun i => free_blk h i, cell_blk h 0, cell_blk h 1, cell_blk h 2, cell_blk h 3⟩

theorem cell_keep {w w' : World} {bs : List Nat} (ho : Only bs w w') {b i : Nat} {v : Value} (h : w.cell? ⟨b, i, none⟩ = some v) (hn : b ∉ bs) : w'.cell? ⟨b, i, none⟩ = some v := by
  rw [World.cell?_of_block (w := w) (ho.block b (World.block_lt_of_cell? _ _ h) hn)]
  exact h

set_option maxHeartbeats 4000000 in
set_option maxRecDepth 100000 in
theorem promiseA (L M V k cp : Nat) (id bal frm n vb v : Int) (s : Value) (pm sd : Nat) (pd : Option Addr) (w : World) (hL : LB w L id bal frm 1 pm (some M) pd sd) (hT : Tab w) (hL1 : L ≠ 1) (hM1 : M ≠ 1) (hLM : L ≠ M) (hk : k < 3) (hpm : pm < 8)
    (hV : VoteAt w V vb n s) (hs : Ints w s [v]) (hf : frm ≤ n) (hvb : vb < bal) (hv0 : 0 < vb) (hM : MB0 w M) :
    Calls Tryd.prog 20 #[.pointer (some ⟨L, 0, none⟩), .int .i64 k, .int .i64 bal, .slice (some ⟨V, 0, none⟩) 1 cp] w fun e w' => e = .returned (.tuple #[.bool (decide (2 ≤ cnt (orB pm k))), .int .i64 0]) ∧ LB w' L id bal frm (phB (orB pm k)) (orB pm k) (some M) pd sd ∧ MB1 w' M n vb v ∧ Only [L, M] w w' := by
  obtain ⟨hlt, hfz, c0, c1, c2, c3, c4, c5, c6, c7, c8⟩ := hL.facts
  obtain ⟨g, cap, rfl, _, _⟩ := hs.one
  obtain ⟨v0, v1, v2, v3, hVlt⟩ := hV
  have HMs := Lib.hid (master_any L k w c8 (by omega) (by omega))
  have HW := Lib.hid (with_any pm k w hpm hk)
  have ho : Only [L, M] w (w.setCell ⟨L, 4, none⟩ (.int .u64 (orB pm k : Nat))) := (Only.refl [L, M] w).setCell _ _ _ (by simp)
  have hT2 : Tab (w.setCell ⟨L, 4, none⟩ (.int .u64 (orB pm k : Nat))) := hT.keep ho (by simp; exact ⟨hL1.symm, hM1.symm⟩)
  have L2 : LB (w.setCell ⟨L, 4, none⟩ (.int .u64 (orB pm k : Nat))) L id bal frm 1 (orB pm k) (some M) pd sd := by
    unfold LB at hL ⊢
    simp [hp_set, hL, setc]
  obtain ⟨k0, hk0⟩ := hM
  have m2 : (w.setCell ⟨L, 4, none⟩ (.int .u64 (orB pm k : Nat))).heap[M]? = some (.map #[] k0) := by rw [hp_set, if_neg hLM.symm]; exact hk0
  have S2 := hs.keep (bs := [L]) ((Only.refl [L] w).setCell L 4 (.int .u64 (orB pm k : Nat)) (by simp)) (by unfold LB at hL; simp [hL])
  have HL0 := Lib.hid hL
  have HM0 := Lib.hid hk0
  have HT0 := Lib.hid hT
  have HL2 := Lib.hid L2
  have HO := Lib.hid ho
  have HT2 := Lib.hid hT2
  have HS2 := Lib.hid S2
  clear hL ho L2 hT hT2 hs S2
  go_enter Tryd.func20, Tryd.ntmps20
  go_wp2_with (first | (go_at_call 44; refine HMs.out.mono ?_; rintro e w1 ⟨rfl, rfl⟩) | (go_at_call 45; refine HW.out.mono ?_; rintro e w1 ⟨rfl, rfl⟩))
  refine wp_loop_rounds 2 ?_
  rw [rounds_succ]
  go_wp2_with fail
  -- the vote lies in a block of its own
  obtain ⟨W1, hW1⟩ : ∃ W1, W1 = (w.setCell ⟨L, 4, none⟩ (.int .u64 (orB pm k : Nat))).alloc (.cells #[.int .i64 vb, .int .i64 n, .int .i64 1, .slice (some ⟨g, 0, none⟩) 1 cap] 31) := ⟨_, rfl⟩
  rw [← hW1]
  have o1 : Only [] (w.setCell ⟨L, 4, none⟩ (.int .u64 (orB pm k : Nat))) W1 := by
    rw [hW1]
    exact (Only.refl [] _).alloc _
  have b1 : W1.heap[w.heap.size]? = some (.cells #[.int .i64 vb, .int .i64 n, .int .i64 1, .slice (some ⟨g, 0, none⟩) 1 cap] 31) := by
    rw [hW1, hp_alloc, if_pos (by simp)]
  clear hW1
  have L3 : LB W1 L id bal frm 1 (orB pm k) (some M) pd sd := o1.get0 HL2.out
  have m3 := o1.get0 m2
  have O3 := Lib.hid (HO.out.trans o1 (by simp))
  have HT3 := Lib.hid (HT2.out.keep o1 (by simp))
  have HS3 := Lib.hid (HS2.out.keep0 o1)
  clear o1 m2 HO HL2 HT2 HS2 c0 c1 c2 c3 c4 c5 c6 c7 c8 hlt hfz v0 v1 v2 v3 hVlt
  obtain ⟨hlt, hfz, c0, c1, c2, c3, c4, c5, c6, c7, c8⟩ := L3.facts
  obtain ⟨l1, f1, d0, d1, d2, d3⟩ := blk4 b1
  have hlk : ∀ nq, (Instr.lookup 80 (.map (some M)) (.int .i64 n) false).run Tryd.prog (W1.drewN nq) = .ok (.agg #[.int .i64 0, .int .i64 0, .int .i64 0, .slice none 0 0]) (W1.drewN nq) := fun nq => by simpa using look0 Tryd.underlying80 Tryd.underlying3 (w := W1.drewN nq) (zero31 _) m3 n false
  have hfd : ∀ nq, (Instr.field 31 (.agg #[.int .i64 0, .int .i64 0, .int .i64 0, .slice none 0 0]) 0).run Tryd.prog (W1.drewN nq) = .ok (.int .i64 0) (W1.drewN nq) := fun nq => field31 _ _ _ _ _
  have HL3 := Lib.hid L3
  have HB1 := Lib.hid b1
  have HM3 := Lib.hid m3
  clear L3 b1 m3
  go_quiet (fail)
  clear hlk hfd
  go_wp2_with fail
  refine (copied1 _ n v _ ⟨_, rfl, HS3.out.keep0 ((Only.refl [] W1).drewN nq)⟩).mono ?_
  rintro e w2 ⟨cc, rfl, ⟨s2, rfl, hs2⟩, ho⟩
  obtain ⟨g2, cap2, rfl, _, _⟩ := hs2.one
  have o2 : Only [L, M] w w2 := (O3.out.drewN nq).trans ho (by simp)
  have L4 : LB w2 L id bal frm 1 (orB pm k) (some M) pd sd := ho.get0 HL3.out
  have b2 : w2.heap[w.heap.size]? = _ := ho.get0 HB1.out
  have m4 : w2.heap[M]? = _ := ho.get0 HM3.out
  have HT4 := Lib.hid (HT3.out.keep (((Only.refl [] W1).drewN nq).trans ho (by simp)) (by simp))
  have O2 := Lib.hid o2
  have HS4 := Lib.hid hs2
  have HL4 := Lib.hid L4
  have HB2 := Lib.hid b2
  have HM4 := Lib.hid m4
  have hVL' : L ≠ w.heap.size := by have := hp_lt HL0.out; omega
  have HVL := Lib.hid hVL'
  clear ho o2 hs2 O3 HT3 HS3 HL3 HB1 HM3 c0 c1 c2 c3 c4 c5 c6 c7 c8 hlt hfz l1 f1 d0 d1 d2 d3 m4 hVL'
  obtain ⟨hlt, hfz, c0, c1, c2, c3, c4, c5, c6, c7, c8⟩ := L4.facts
  obtain ⟨l1, f1, d0, d1, d2, d3⟩ := blk4 b2
  clear L4 b2
  go_wp2_with fail
  obtain ⟨W3, hW3⟩ : ∃ W3, W3 = ((w2.setCell ⟨w.heap.size, 1, none⟩ (.int .i64 n)).setCell ⟨w.heap.size, 2, none⟩ (.int .i64 1)).setCell ⟨w.heap.size, 3, none⟩ (.slice (some ⟨g2, 0, none⟩) 1 cap2) := ⟨_, rfl⟩
  rw [← hW3]
  have o3 : Only [w.heap.size] w2 W3 := by
    rw [hW3]
    repeat' (first | with_reducible assumption | with_reducible refine Only.alloc ?_ _ | with_reducible refine Only.drew ?_ | with_reducible refine Only.drewN ?_ _ | with_reducible refine Only.setCell ?_ _ _ _ (by simp) | with_reducible exact Only.refl _ _)
  have b3 : W3.heap[w.heap.size]? = some (.cells #[.int .i64 vb, .int .i64 n, .int .i64 1, .slice (some ⟨g2, 0, none⟩) 1 cap2] 31) := by
    rw [hW3]
    simp [hp_set, HB2.out, setc]
  clear hW3
  have L5 : LB W3 L id bal frm 1 (orB pm k) (some M) pd sd := o3.get HL4.out (by simpa using HVL.out)
  have hMV : M ≠ w.heap.size := by have := hp_lt HM0.out; omega
  have m5 : W3.heap[M]? = _ := o3.get HM4.out (by simpa using hMV)
  have hwt : 1 ≠ w.heap.size := by have := HT0.out.lt; omega
  have HT5 := Lib.hid (HT4.out.keep o3 (by simpa using hwt))
  have HS5 := Lib.hid (HS4.out.keep o3 (by simp [HB2.out]))
  have O5 := Lib.hid (O2.out.trans o3 (by simp))
  have hup := upd0 Tryd.underlying80 Tryd.underlying3 (w := W3.drew) m5 n (.agg #[.int .i64 vb, .int .i64 n, .int .i64 1, .slice (some ⟨g2, 0, none⟩) 1 cap2])
  have HM5 := Lib.hid m5
  have HL5 := Lib.hid L5
  clear o3 hMV hwt HT4 HS4 O2 HL4 HB2 HM4 c0 c1 c2 c3 c4 c5 c6 c7 c8 hlt hfz l1 f1 d0 d1 d2 d3 m5
  obtain ⟨hlt, hfz, c0, c1, c2, c3, c4, c5, c6, c7, c8⟩ := L5.facts
  obtain ⟨l1, f1, d0, d1, d2, d3⟩ := blk4 b3
  clear L5 b3
  go_region
  obtain ⟨W4, hW4⟩ : ∃ W4, W4 = setBlock W3.drew M (.map #[⟨.int .i64 n, .agg #[.int .i64 vb, .int .i64 n, .int .i64 1, .slice (some ⟨g2, 0, none⟩) 1 cap2], k0⟩] (k0 + 1)) := ⟨_, rfl⟩
  rw [← hW4]
  have hMlt : M < W3.drew.heap.size := hp_lt (b := M) (w := W3) HM5.out
  have m6 : W4.heap[M]? = some (.map #[⟨.int .i64 n, .agg #[.int .i64 vb, .int .i64 n, .int .i64 1, .slice (some ⟨g2, 0, none⟩) 1 cap2], k0⟩] (k0 + 1)) := by
    rw [hW4, hp_map hMlt, if_pos rfl]
  have o6 : Only [M] W3 W4 := by
    rw [hW4]
    refine ⟨rfl, rfl, rfl, by simp [setBlock], fun j _ hj => ?_⟩
    rw [hp_map hMlt, if_neg (by simpa using hj)]
    rfl
  clear hW4
  have L6 : LB W4 L id bal frm 1 (orB pm k) (some M) pd sd := o6.get HL5.out (by simpa using hLM)
  have HT6 := Lib.hid (HT5.out.keep o6 (by simpa using hM1.symm))
  have HS6 := Lib.hid (HS5.out.keep o6 (by simp [HM5.out]))
  have O6 := Lib.hid (O5.out.trans o6 (by simp))
  have HM6 := Lib.hid m6
  have HL6 := Lib.hid L6
  clear hup hMlt m6 o6 HT5 HS5 O5 HM5 HL5 c0 c1 c2 c3 c4 c5 c6 c7 c8 hlt hfz l1 f1 d0 d1 d2 d3
  obtain ⟨hlt, hfz, c0, c1, c2, c3, c4, c5, c6, c7, c8⟩ := L6.facts
  clear L6
  go_wp2_with fail
  rw [rounds_succ]
  go_wp2_with fail
  by_cases hc : 2 ≤ cnt (orB pm k)
  all_goals
    have HE := enough_any (orB pm k) (orB_lt pm k hpm hk) _ HT6.out
    have HCC := Lib.hid hc
    simp only [hc, decide_true, decide_false] at HE ⊢
    clear hc
    have HE' := Lib.hid HE
    clear HE
    refine HE'.out.mono ?_
    rintro e w6 ⟨rfl, hb⟩
    have o7 : Only [] _ w6 := Only.of_below hb
    have L7 : LB w6 L id bal frm 1 (orB pm k) (some M) pd sd := o7.get0 HL6.out
    have m7 : w6.heap[M]? = _ := o7.get0 HM6.out
    have O7 := Lib.hid ((O6.out).trans o7 (by simp))
    have HS7 := Lib.hid (HS6.out.keep0 o7)
    have HL7 := Lib.hid L7
    have HM7 := Lib.hid m7
    clear o7 hb m7 c0 c1 c2 c3 c4 c5 c6 c7 c8 hlt hfz
    obtain ⟨hlt, hfz, c0, c1, c2, c3, c4, c5, c6, c7, c8⟩ := L7.facts
    clear L7
    go_wp2_with fail
    go_ret2
    refine ⟨by simp [HCC.out], ?_, ?_, ?_⟩
    · have h1 := HL7.out
      unfold LB at h1 ⊢
      simp [hp_set, h1, setc, phB, HCC.out]
    · first | exact ⟨_, _, _, HM7.out, HS7.out⟩ | (refine ⟨_, k0, k0 + 1, ?_, HS7.out.keep (bs := [L]) ((Only.refl [L] w6).setCell L 3 (.int .i64 2) (by simp)) (by have h1 := HL7.out; unfold LB at h1; simp [h1])⟩; rw [hp_set, if_neg hLM.symm]; exact HM7.out)
    · have h1 := O7.out
      repeat' (first | with_reducible assumption | with_reducible refine Only.alloc ?_ _ | with_reducible refine Only.drew ?_ | with_reducible refine Only.drewN ?_ _ | with_reducible refine Only.setCell ?_ _ _ _ (by simp) | with_reducible exact Only.refl _ _)

set_option maxHeartbeats 4000000 in
set_option maxRecDepth 100000 in
theorem promiseB (L M V k cp : Nat) (id bal frm n vb v ub u : Int) (s : Value) (pm sd : Nat) (pd : Option Addr) (w : World) (hL : LB w L id bal frm 1 pm (some M) pd sd) (hT : Tab w) (hL1 : L ≠ 1) (hM1 : M ≠ 1) (hLM : L ≠ M) (hk : k < 3) (hpm : pm < 8)
    (hV : VoteAt w V vb n s) (hs : Ints w s [v]) (hf : frm ≤ n) (hvb : vb < bal) (hM : MB1 w M n ub u) (hub : ub < vb) :
    Calls Tryd.prog 20 #[.pointer (some ⟨L, 0, none⟩), .int .i64 k, .int .i64 bal, .slice (some ⟨V, 0, none⟩) 1 cp] w fun e w' => e = .returned (.tuple #[.bool (decide (2 ≤ cnt (orB pm k))), .int .i64 0]) ∧ LB w' L id bal frm (phB (orB pm k)) (orB pm k) (some M) pd sd ∧ MB1 w' M n vb v ∧ Only [L, M] w w' := by
  obtain ⟨hlt, hfz, c0, c1, c2, c3, c4, c5, c6, c7, c8⟩ := hL.facts
  obtain ⟨g, cap, rfl, _, _⟩ := hs.one
  obtain ⟨v0, v1, v2, v3, hVlt⟩ := hV
  have HMs := Lib.hid (master_any L k w c8 (by omega) (by omega))
  have HW := Lib.hid (with_any pm k w hpm hk)
  have ho : Only [L, M] w (w.setCell ⟨L, 4, none⟩ (.int .u64 (orB pm k : Nat))) := (Only.refl [L, M] w).setCell _ _ _ (by simp)
  have hT2 : Tab (w.setCell ⟨L, 4, none⟩ (.int .u64 (orB pm k : Nat))) := hT.keep ho (by simp; exact ⟨hL1.symm, hM1.symm⟩)
  have L2 : LB (w.setCell ⟨L, 4, none⟩ (.int .u64 (orB pm k : Nat))) L id bal frm 1 (orB pm k) (some M) pd sd := by
    unfold LB at hL ⊢
    simp [hp_set, hL, setc]
  obtain ⟨su, b0, k0, hk0, hsu⟩ := hM
  have m2 : (w.setCell ⟨L, 4, none⟩ (.int .u64 (orB pm k : Nat))).heap[M]? = some (.map #[⟨.int .i64 n, .agg #[.int .i64 ub, .int .i64 n, .int .i64 1, su], b0⟩] k0) := by rw [hp_set, if_neg hLM.symm]; exact hk0
  have S2 := hs.keep (bs := [L]) ((Only.refl [L] w).setCell L 4 (.int .u64 (orB pm k : Nat)) (by simp)) (by unfold LB at hL; simp [hL])
  have HL0 := Lib.hid hL
  have HM0 := Lib.hid hk0
  have HT0 := Lib.hid hT
  have HL2 := Lib.hid L2
  have HO := Lib.hid ho
  have HT2 := Lib.hid hT2
  have HS2 := Lib.hid S2
  clear hL ho L2 hT hT2 hs S2
  go_enter Tryd.func20, Tryd.ntmps20
  go_wp2_with (first | (go_at_call 44; refine HMs.out.mono ?_; rintro e w1 ⟨rfl, rfl⟩) | (go_at_call 45; refine HW.out.mono ?_; rintro e w1 ⟨rfl, rfl⟩))
  refine wp_loop_rounds 2 ?_
  rw [rounds_succ]
  go_wp2_with fail
  -- the vote lies in a block of its own
  obtain ⟨W1, hW1⟩ : ∃ W1, W1 = (w.setCell ⟨L, 4, none⟩ (.int .u64 (orB pm k : Nat))).alloc (.cells #[.int .i64 vb, .int .i64 n, .int .i64 1, .slice (some ⟨g, 0, none⟩) 1 cap] 31) := ⟨_, rfl⟩
  rw [← hW1]
  have o1 : Only [] (w.setCell ⟨L, 4, none⟩ (.int .u64 (orB pm k : Nat))) W1 := by
    rw [hW1]
    exact (Only.refl [] _).alloc _
  have b1 : W1.heap[w.heap.size]? = some (.cells #[.int .i64 vb, .int .i64 n, .int .i64 1, .slice (some ⟨g, 0, none⟩) 1 cap] 31) := by
    rw [hW1, hp_alloc, if_pos (by simp)]
  clear hW1
  have L3 : LB W1 L id bal frm 1 (orB pm k) (some M) pd sd := o1.get0 HL2.out
  have m3 := o1.get0 m2
  have O3 := Lib.hid (HO.out.trans o1 (by simp))
  have HT3 := Lib.hid (HT2.out.keep o1 (by simp))
  have HS3 := Lib.hid (HS2.out.keep0 o1)
  clear o1 m2 HO HL2 HT2 HS2 c0 c1 c2 c3 c4 c5 c6 c7 c8 hlt hfz v0 v1 v2 v3 hVlt
  obtain ⟨hlt, hfz, c0, c1, c2, c3, c4, c5, c6, c7, c8⟩ := L3.facts
  obtain ⟨l1, f1, d0, d1, d2, d3⟩ := blk4 b1
  have hlk : ∀ nq, (Instr.lookup 80 (.map (some M)) (.int .i64 n) false).run Tryd.prog (W1.drewN nq) = .ok (.agg #[.int .i64 ub, .int .i64 n, .int .i64 1, su]) (W1.drewN nq) := fun nq => by simpa using look1 Tryd.underlying80 Tryd.underlying3 (w := W1.drewN nq) m3 false
  have hfd : ∀ nq, (Instr.field 31 (.agg #[.int .i64 ub, .int .i64 n, .int .i64 1, su]) 0).run Tryd.prog (W1.drewN nq) = .ok (.int .i64 ub) (W1.drewN nq) := fun nq => field31 _ _ _ _ _
  have HL3 := Lib.hid L3
  have HB1 := Lib.hid b1
  have HM3 := Lib.hid m3
  clear L3 b1 m3
  go_quiet (fail)
  clear hlk hfd
  go_wp2_with fail
  refine (copied1 _ n v _ ⟨_, rfl, HS3.out.keep0 ((Only.refl [] W1).drewN nq)⟩).mono ?_
  rintro e w2 ⟨cc, rfl, ⟨s2, rfl, hs2⟩, ho⟩
  obtain ⟨g2, cap2, rfl, _, _⟩ := hs2.one
  have o2 : Only [L, M] w w2 := (O3.out.drewN nq).trans ho (by simp)
  have L4 : LB w2 L id bal frm 1 (orB pm k) (some M) pd sd := ho.get0 HL3.out
  have b2 : w2.heap[w.heap.size]? = _ := ho.get0 HB1.out
  have m4 : w2.heap[M]? = _ := ho.get0 HM3.out
  have HT4 := Lib.hid (HT3.out.keep (((Only.refl [] W1).drewN nq).trans ho (by simp)) (by simp))
  have O2 := Lib.hid o2
  have HS4 := Lib.hid hs2
  have HL4 := Lib.hid L4
  have HB2 := Lib.hid b2
  have HM4 := Lib.hid m4
  have hVL' : L ≠ w.heap.size := by have := hp_lt HL0.out; omega
  have HVL := Lib.hid hVL'
  clear ho o2 hs2 O3 HT3 HS3 HL3 HB1 HM3 c0 c1 c2 c3 c4 c5 c6 c7 c8 hlt hfz l1 f1 d0 d1 d2 d3 m4 hVL'
  obtain ⟨hlt, hfz, c0, c1, c2, c3, c4, c5, c6, c7, c8⟩ := L4.facts
  obtain ⟨l1, f1, d0, d1, d2, d3⟩ := blk4 b2
  clear L4 b2
  go_wp2_with fail
  obtain ⟨W3, hW3⟩ : ∃ W3, W3 = ((w2.setCell ⟨w.heap.size, 1, none⟩ (.int .i64 n)).setCell ⟨w.heap.size, 2, none⟩ (.int .i64 1)).setCell ⟨w.heap.size, 3, none⟩ (.slice (some ⟨g2, 0, none⟩) 1 cap2) := ⟨_, rfl⟩
  rw [← hW3]
  have o3 : Only [w.heap.size] w2 W3 := by
    rw [hW3]
    repeat' (first | with_reducible assumption | with_reducible refine Only.alloc ?_ _ | with_reducible refine Only.drew ?_ | with_reducible refine Only.drewN ?_ _ | with_reducible refine Only.setCell ?_ _ _ _ (by simp) | with_reducible exact Only.refl _ _)
  have b3 : W3.heap[w.heap.size]? = some (.cells #[.int .i64 vb, .int .i64 n, .int .i64 1, .slice (some ⟨g2, 0, none⟩) 1 cap2] 31) := by
    rw [hW3]
    simp [hp_set, HB2.out, setc]
  clear hW3
  have L5 : LB W3 L id bal frm 1 (orB pm k) (some M) pd sd := o3.get HL4.out (by simpa using HVL.out)
  have hMV : M ≠ w.heap.size := by have := hp_lt HM0.out; omega
  have m5 : W3.heap[M]? = _ := o3.get HM4.out (by simpa using hMV)
  have hwt : 1 ≠ w.heap.size := by have := HT0.out.lt; omega
  have HT5 := Lib.hid (HT4.out.keep o3 (by simpa using hwt))
  have HS5 := Lib.hid (HS4.out.keep o3 (by simp [HB2.out]))
  have O5 := Lib.hid (O2.out.trans o3 (by simp))
  have hup := upd1 Tryd.underlying80 Tryd.underlying3 (w := W3.drew) m5 (.agg #[.int .i64 vb, .int .i64 n, .int .i64 1, .slice (some ⟨g2, 0, none⟩) 1 cap2])
  have HM5 := Lib.hid m5
  have HL5 := Lib.hid L5
  clear o3 hMV hwt HT4 HS4 O2 HL4 HB2 HM4 c0 c1 c2 c3 c4 c5 c6 c7 c8 hlt hfz l1 f1 d0 d1 d2 d3 m5
  obtain ⟨hlt, hfz, c0, c1, c2, c3, c4, c5, c6, c7, c8⟩ := L5.facts
  obtain ⟨l1, f1, d0, d1, d2, d3⟩ := blk4 b3
  clear L5 b3
  go_region
  obtain ⟨W4, hW4⟩ : ∃ W4, W4 = setBlock W3.drew M (.map #[⟨.int .i64 n, .agg #[.int .i64 vb, .int .i64 n, .int .i64 1, .slice (some ⟨g2, 0, none⟩) 1 cap2], b0⟩] k0) := ⟨_, rfl⟩
  rw [← hW4]
  have hMlt : M < W3.drew.heap.size := hp_lt (b := M) (w := W3) HM5.out
  have m6 : W4.heap[M]? = some (.map #[⟨.int .i64 n, .agg #[.int .i64 vb, .int .i64 n, .int .i64 1, .slice (some ⟨g2, 0, none⟩) 1 cap2], b0⟩] k0) := by
    rw [hW4, hp_map hMlt, if_pos rfl]
  have o6 : Only [M] W3 W4 := by
    rw [hW4]
    refine ⟨rfl, rfl, rfl, by simp [setBlock], fun j _ hj => ?_⟩
    rw [hp_map hMlt, if_neg (by simpa using hj)]
    rfl
  clear hW4
  have L6 : LB W4 L id bal frm 1 (orB pm k) (some M) pd sd := o6.get HL5.out (by simpa using hLM)
  have HT6 := Lib.hid (HT5.out.keep o6 (by simpa using hM1.symm))
  have HS6 := Lib.hid (HS5.out.keep o6 (by simp [HM5.out]))
  have O6 := Lib.hid (O5.out.trans o6 (by simp))
  have HM6 := Lib.hid m6
  have HL6 := Lib.hid L6
  clear hup hMlt m6 o6 HT5 HS5 O5 HM5 HL5 c0 c1 c2 c3 c4 c5 c6 c7 c8 hlt hfz l1 f1 d0 d1 d2 d3
  obtain ⟨hlt, hfz, c0, c1, c2, c3, c4, c5, c6, c7, c8⟩ := L6.facts
  clear L6
  go_wp2_with fail
  rw [rounds_succ]
  go_wp2_with fail
  by_cases hc : 2 ≤ cnt (orB pm k)
  all_goals
    have HE := enough_any (orB pm k) (orB_lt pm k hpm hk) _ HT6.out
    have HCC := Lib.hid hc
    simp only [hc, decide_true, decide_false] at HE ⊢
    clear hc
    have HE' := Lib.hid HE
    clear HE
    refine HE'.out.mono ?_
    rintro e w6 ⟨rfl, hb⟩
    have o7 : Only [] _ w6 := Only.of_below hb
    have L7 : LB w6 L id bal frm 1 (orB pm k) (some M) pd sd := o7.get0 HL6.out
    have m7 : w6.heap[M]? = _ := o7.get0 HM6.out
    have O7 := Lib.hid ((O6.out).trans o7 (by simp))
    have HS7 := Lib.hid (HS6.out.keep0 o7)
    have HL7 := Lib.hid L7
    have HM7 := Lib.hid m7
    clear o7 hb m7 c0 c1 c2 c3 c4 c5 c6 c7 c8 hlt hfz
    obtain ⟨hlt, hfz, c0, c1, c2, c3, c4, c5, c6, c7, c8⟩ := L7.facts
    clear L7
    go_wp2_with fail
    go_ret2
    refine ⟨by simp [HCC.out], ?_, ?_, ?_⟩
    · have h1 := HL7.out
      unfold LB at h1 ⊢
      simp [hp_set, h1, setc, phB, HCC.out]
    · first | exact ⟨_, _, _, HM7.out, HS7.out⟩ | (refine ⟨_, b0, k0, ?_, HS7.out.keep (bs := [L]) ((Only.refl [L] w6).setCell L 3 (.int .i64 2) (by simp)) (by have h1 := HL7.out; unfold LB at h1; simp [h1])⟩; rw [hp_set, if_neg hLM.symm]; exact HM7.out)
    · have h1 := O7.out
      repeat' (first | with_reducible assumption | with_reducible refine Only.alloc ?_ _ | with_reducible refine Only.drew ?_ | with_reducible refine Only.drewN ?_ _ | with_reducible refine Only.setCell ?_ _ _ _ (by simp) | with_reducible exact Only.refl _ _)

set_option maxHeartbeats 4000000 in
set_option maxRecDepth 100000 in
theorem promiseC (L M V k cp : Nat) (id bal frm n vb v ub u : Int) (s : Value) (pm sd : Nat) (pd : Option Addr) (w : World) (hL : LB w L id bal frm 1 pm (some M) pd sd) (hT : Tab w) (hL1 : L ≠ 1) (hM1 : M ≠ 1) (hLM : L ≠ M) (hk : k < 3) (hpm : pm < 8)
    (hV : VoteAt w V vb n s) (hs : Ints w s [v]) (hf : frm ≤ n) (hvb : vb < bal) (hM : MB1 w M n ub u) (hub : vb ≤ ub) :
    Calls Tryd.prog 20 #[.pointer (some ⟨L, 0, none⟩), .int .i64 k, .int .i64 bal, .slice (some ⟨V, 0, none⟩) 1 cp] w fun e w' => e = .returned (.tuple #[.bool (decide (2 ≤ cnt (orB pm k))), .int .i64 0]) ∧ LB w' L id bal frm (phB (orB pm k)) (orB pm k) (some M) pd sd ∧ MB1 w' M n ub u ∧ Only [L, M] w w' := by
  obtain ⟨hlt, hfz, c0, c1, c2, c3, c4, c5, c6, c7, c8⟩ := hL.facts
  obtain ⟨g, cap, rfl, _, _⟩ := hs.one
  obtain ⟨v0, v1, v2, v3, hVlt⟩ := hV
  have HMs := Lib.hid (master_any L k w c8 (by omega) (by omega))
  have HW := Lib.hid (with_any pm k w hpm hk)
  have ho : Only [L, M] w (w.setCell ⟨L, 4, none⟩ (.int .u64 (orB pm k : Nat))) := (Only.refl [L, M] w).setCell _ _ _ (by simp)
  have hT2 : Tab (w.setCell ⟨L, 4, none⟩ (.int .u64 (orB pm k : Nat))) := hT.keep ho (by simp; exact ⟨hL1.symm, hM1.symm⟩)
  have L2 : LB (w.setCell ⟨L, 4, none⟩ (.int .u64 (orB pm k : Nat))) L id bal frm 1 (orB pm k) (some M) pd sd := by
    unfold LB at hL ⊢
    simp [hp_set, hL, setc]
  obtain ⟨su, b0, k0, hk0, hsu⟩ := hM
  have m2 : (w.setCell ⟨L, 4, none⟩ (.int .u64 (orB pm k : Nat))).heap[M]? = some (.map #[⟨.int .i64 n, .agg #[.int .i64 ub, .int .i64 n, .int .i64 1, su], b0⟩] k0) := by rw [hp_set, if_neg hLM.symm]; exact hk0
  have S2 := hsu.keep (bs := [L]) ((Only.refl [L] w).setCell L 4 (.int .u64 (orB pm k : Nat)) (by simp)) (by unfold LB at hL; simp [hL])
  have HL0 := Lib.hid hL
  have HM0 := Lib.hid hk0
  have HT0 := Lib.hid hT
  have HL2 := Lib.hid L2
  have HO := Lib.hid ho
  have HT2 := Lib.hid hT2
  have HS2 := Lib.hid S2
  clear hL ho L2 hT hT2 hs S2
  go_enter Tryd.func20, Tryd.ntmps20
  go_wp2_with (first | (go_at_call 44; refine HMs.out.mono ?_; rintro e w1 ⟨rfl, rfl⟩) | (go_at_call 45; refine HW.out.mono ?_; rintro e w1 ⟨rfl, rfl⟩))
  refine wp_loop_rounds 2 ?_
  rw [rounds_succ]
  go_wp2_with fail
  -- the vote lies in a block of its own
  obtain ⟨W1, hW1⟩ : ∃ W1, W1 = (w.setCell ⟨L, 4, none⟩ (.int .u64 (orB pm k : Nat))).alloc (.cells #[.int .i64 vb, .int .i64 n, .int .i64 1, .slice (some ⟨g, 0, none⟩) 1 cap] 31) := ⟨_, rfl⟩
  rw [← hW1]
  have o1 : Only [] (w.setCell ⟨L, 4, none⟩ (.int .u64 (orB pm k : Nat))) W1 := by
    rw [hW1]
    exact (Only.refl [] _).alloc _
  have b1 : W1.heap[w.heap.size]? = some (.cells #[.int .i64 vb, .int .i64 n, .int .i64 1, .slice (some ⟨g, 0, none⟩) 1 cap] 31) := by
    rw [hW1, hp_alloc, if_pos (by simp)]
  clear hW1
  have L3 : LB W1 L id bal frm 1 (orB pm k) (some M) pd sd := o1.get0 HL2.out
  have m3 := o1.get0 m2
  have O3 := Lib.hid (HO.out.trans o1 (by simp))
  have HT3 := Lib.hid (HT2.out.keep o1 (by simp))
  have HS3 := Lib.hid (HS2.out.keep0 o1)
  clear o1 m2 HO HL2 HT2 HS2 c0 c1 c2 c3 c4 c5 c6 c7 c8 hlt hfz v0 v1 v2 v3 hVlt
  obtain ⟨hlt, hfz, c0, c1, c2, c3, c4, c5, c6, c7, c8⟩ := L3.facts
  obtain ⟨l1, f1, d0, d1, d2, d3⟩ := blk4 b1
  have hlk : ∀ nq, (Instr.lookup 80 (.map (some M)) (.int .i64 n) false).run Tryd.prog (W1.drewN nq) = .ok (.agg #[.int .i64 ub, .int .i64 n, .int .i64 1, su]) (W1.drewN nq) := fun nq => by simpa using look1 Tryd.underlying80 Tryd.underlying3 (w := W1.drewN nq) m3 false
  have hfd : ∀ nq, (Instr.field 31 (.agg #[.int .i64 ub, .int .i64 n, .int .i64 1, su]) 0).run Tryd.prog (W1.drewN nq) = .ok (.int .i64 ub) (W1.drewN nq) := fun nq => field31 _ _ _ _ _
  have HL3 := Lib.hid L3
  have HB1 := Lib.hid b1
  have HM3 := Lib.hid m3
  clear L3 b1 m3
  go_quiet (fail)
  clear hlk hfd
  go_wp2_with fail
  rw [rounds_succ]
  go_wp2_with fail
  by_cases hc : 2 ≤ cnt (orB pm k)
  all_goals
    have HE := enough_any (orB pm k) (orB_lt pm k hpm hk) (W1.drewN nq) HT3.out
    have HCC := Lib.hid hc
    simp only [hc, decide_true, decide_false] at HE ⊢
    clear hc
    have HE' := Lib.hid HE
    clear HE
    refine HE'.out.mono ?_
    rintro e w6 ⟨rfl, hb⟩
    have o7 : Only [] _ w6 := Only.of_below hb
    have L7 : LB w6 L id bal frm 1 (orB pm k) (some M) pd sd := o7.get0 HL3.out
    have m7 : w6.heap[M]? = _ := o7.get0 HM3.out
    have O7 := Lib.hid (((O3.out.drewN nq)).trans o7 (by simp))
    have HS7 := Lib.hid ((HS3.out.keep0 ((Only.refl [] W1).drewN nq)).keep0 o7)
    have HL7 := Lib.hid L7
    have HM7 := Lib.hid m7
    clear o7 hb m7 c0 c1 c2 c3 c4 c5 c6 c7 c8 hlt hfz
    obtain ⟨hlt, hfz, c0, c1, c2, c3, c4, c5, c6, c7, c8⟩ := L7.facts
    clear L7
    go_wp2_with fail
    go_ret2
    refine ⟨by simp [HCC.out], ?_, ?_, ?_⟩
    · have h1 := HL7.out
      unfold LB at h1 ⊢
      simp [hp_set, h1, setc, phB, HCC.out]
    · first | exact ⟨_, _, _, HM7.out, HS7.out⟩ | (refine ⟨_, b0, k0, ?_, HS7.out.keep (bs := [L]) ((Only.refl [L] w6).setCell L 3 (.int .i64 2) (by simp)) (by have h1 := HL7.out; unfold LB at h1; simp [h1])⟩; rw [hp_set, if_neg hLM.symm]; exact HM7.out)
    · have h1 := O7.out
      repeat' (first | with_reducible assumption | with_reducible refine Only.alloc ?_ _ | with_reducible refine Only.drew ?_ | with_reducible refine Only.drewN ?_ _ | with_reducible refine Only.setCell ?_ _ _ _ (by simp) | with_reducible exact Only.refl _ _)

end Go.Proofs.YtlmkiekdkonofaaDoor
