/-
  LeadAgrees: the walk: whatever rows are told, it answers true, and nothing that lay has turned.
-/
import Derived.Test.YtlmkiekdkonofaaDoorPd
import Derived.Test.YtlmkiekdkonofaaDoorKc
import Derived.Test.YtlmkiekdkonofaaDoorKd
import Derived.Test.YtlmkiekdkonofaaDoorKe
namespace Go.Proofs.YtlmkiekdkonofaaDoor
open Go.RowKit
attribute [local go_sem] alloc_drewN setCell_drewN

theorem bringQ (x : Int) (n : Nat) (w : World) : Calls Tryd.prog 7 #[.int .i64 x, .int .i64 3] (w.drewN n) fun e w' => e = .returned (.int .i64 (x % 3)) ∧ w' = w.drewN n :=
  (bring3 x _).mono fun _ _ ⟨he, hw⟩ => ⟨he, hw.symm⟩

/-- The rows that are told: three numbers each. -/
def RowsAt (w : World) (a : Option Addr) (n : Nat) : Prop :=
  ∀ i, i < n → ∃ b off x y z, a = some ⟨b, off, none⟩ ∧ b < w.heap.size ∧ w.cell? ⟨b, off + i * 3, none⟩ = some (.int .i64 x) ∧ w.cell? ⟨b, off + i * 3 + 1, none⟩ = some (.int .i64 y) ∧ w.cell? ⟨b, off + i * 3 + 2, none⟩ = some (.int .i64 z)

/-- The council's cells, at its beginning. -/
def cvals (p0 p1 p2 : Option Addr) : Array Value := #[.pointer p0, .pointer p1, .pointer p2, .int .i64 0, .int .i64 0, .int .i64 0, .int .i64 0, .slice none 0 0, .int .i64 0, .int .i64 0, .int .i64 0, .int .i64 0, .slice none 0 0, .int .i64 0, .int .i64 0, .int .i64 0, .int .i64 0, .slice none 0 0, .int .i64 0]

theorem cblk_facts {w : World} {C : Nat} {p0 p1 p2 : Option Addr} (h : w.heap[C]? = some (.cells (cvals p0 p1 p2) 36 (0, 0))) :
    C < w.heap.size ∧ (∀ i, w.frozen? ⟨C, i, none⟩ = false) ∧ w.cell? ⟨C, 0, none⟩ = some (.pointer p0) ∧ w.cell? ⟨C, 1, none⟩ = some (.pointer p1) ∧ w.cell? ⟨C, 2, none⟩ = some (.pointer p2) :=
  ⟨hp_lt h, fun i => free_blk h i, cell_blk h 0, cell_blk h 1, cell_blk h 2⟩
theorem cblk_set {w : World} {C : Nat} {p0 p1 p2 : Option Addr} (h : w.heap[C]? = some (.cells (cvals p0 p1 p2) 36 (0, 0))) (q : Option Addr) :
    (w.setCell ⟨C, 0, none⟩ (.pointer q)).heap[C]? = some (.cells (cvals q p1 p2) 36 (0, 0)) ∧ (w.setCell ⟨C, 1, none⟩ (.pointer q)).heap[C]? = some (.cells (cvals p0 q p2) 36 (0, 0)) ∧ (w.setCell ⟨C, 2, none⟩ (.pointer q)).heap[C]? = some (.cells (cvals p0 p1 q) 36 (0, 0)) := by
  refine ⟨?_, ?_, ?_⟩ <;> (rw [hp_set, if_pos rfl, h]; rfl)

/-- Three. -/
def three (x y z : Nat) : Nat → Nat := fun k => if k = 0 then x else if k = 1 then y else z

theorem LB.idle {w : World} {L k : Nat} (h : LB w L k 0 0 0 0 none none 0) : LdAt w L k none (cn0.ld k) := ⟨none, h, rfl, fun _ e => nomatch e⟩

/-- The council, at its beginning. -/
theorem cm0 {w : World} {B C x y z : Nat} (hc : w.heap[C]? = some (.cells (cvals (some ⟨x, 0, none⟩) (some ⟨y, 0, none⟩) (some ⟨z, 0, none⟩)) 36 (0, 0))) (h0 : LB w x (0 : Nat) 0 0 0 0 none none 0) (h1 : LB w y (1 : Nat) 0 0 0 0 none none 0) (h2 : LB w z (2 : Nat) 0 0 0 0 none none 0)
    (hxy : x < y) (hyz : y < z) (hB : 1 < B) (hBC : B ≤ C) (hBx : B ≤ x) (hT : Tab w) : CM w B C (three x y z) (fun _ => none) cn0 := by
  refine { base := ⟨hB, hBC, ?_, fun _ _ _ e => nomatch e⟩, cblk := ⟨_, hc⟩, ptr := ?_, vot := ?_, chs := cell_blk hc 18, lds := ?_, inj := ?_, minj := fun _ _ _ _ _ _ e => (nomatch e), act := fun _ _ h => absurd rfl h, tab := hT }
  · intro k hk
    have : k = 0 ∨ k = 1 ∨ k = 2 := by omega
    rcases this with rfl | rfl | rfl <;> simp [three] <;> omega
  · intro k hk
    have : k = 0 ∨ k = 1 ∨ k = 2 := by omega
    rcases this with rfl | rfl | rfl
    · exact cell_blk hc 0
    · exact cell_blk hc 1
    · exact cell_blk hc 2
  · intro k hk
    have : k = 0 ∨ k = 1 ∨ k = 2 := by omega
    rcases this with rfl | rfl | rfl <;> exact ⟨cell_blk hc _, cell_blk hc _, 0, 0, .slice none 0 0, cell_blk hc _, cell_blk hc _, cell_blk hc _, ⟨_, _, _, rfl⟩, fun h => absurd rfl h⟩
  · intro k hk
    have : k = 0 ∨ k = 1 ∨ k = 2 := by omega
    rcases this with rfl | rfl | rfl
    · exact h0.idle
    · exact h1.idle
    · exact h2.idle
  · intro i j hi hj hne
    have a : i = 0 ∨ i = 1 ∨ i = 2 := by omega
    have b : j = 0 ∨ j = 1 ∨ j = 2 := by omega
    rcases a with rfl | rfl | rfl <;> rcases b with rfl | rfl | rfl <;> simp [three] <;> omega

/-- Between two of the rows. -/
structure LI (w : World) (B C : Nat) (L : Nat → Nat) (j : Nat) (st : Cn) (mb : Nat → Option Nat) (wr : World) : Prop where
  cm : CM wr B C L mb st
  inv : ∃ vo val, Inv st vo val
  upto : Upto st (3 * j)
  low : Below w.heap.size w wr

theorem LI.keep0 {w : World} {B C : Nat} {L : Nat → Nat} {j : Nat} {st : Cn} {mb : Nat → Option Nat} {wr w' : World} (h : LI w B C L j st mb wr) (ho : Only [] wr w') (hB : w.heap.size ≤ B) : LI w B C L j st mb w' :=
  { cm := h.cm.keep0 ho, inv := h.inv, upto := h.upto, low := h.low.trans (ho.below (Nat.le_trans hB (Nat.le_trans h.cm.base.2.1 (Nat.le_of_lt h.cm.lt))) (by simp)) }

set_option maxHeartbeats 8000000 in
set_option maxRecDepth 100000 in
theorem lead_any (a : Option Addr) (n c : Nat) (w : World) (hT : Tab w) (hR : RowsAt w a n) (hn : n ≤ 9223372036854775807) :
    Calls Tryd.prog 3 #[.slice a n c] w fun e w' => e = .returned (.bool true) ∧ Below w.heap.size w w' := by
  have HT := Lib.hid hT
  have HR := Lib.hid hR
  have HN := Lib.hid hn
  have HW := Lib.hid (works_any w hT)
  clear hT hR hn
  go_enter Tryd.func3, Tryd.ntmps3
  go_wp2_with fail
  refine HW.out.mono ?_
  rintro e w1 ⟨rfl, ho⟩
  have O1 := Lib.hid ho
  have T1 := Lib.hid (HT.out.keep ho (by simp))
  clear ho HW
  go_wp2_with fail
  refine wp_loop_rounds 4 ?_
  rw [rounds_succ]
  go_wp2_with fail
  have b1 : (w1.alloc (.cells (cvals none none none) 36)).heap[w1.heap.size]? = some (.cells (cvals none none none) 36) := heap_alloc_new _ _
  have o1 : Only [] w1 (w1.alloc (.cells (cvals none none none) 36)) := (Only.refl _ _).alloc _
  obtain ⟨W1, hW1⟩ : ∃ W1, W1 = w1.alloc (.cells (cvals none none none) 36) := ⟨_, rfl⟩
  rw [← hW1] at b1 o1
  have hg : w1.alloc (.cells #[.pointer none, .pointer none, .pointer none, .int .i64 0, .int .i64 0, .int .i64 0, .int .i64 0, .slice none 0 0, .int .i64 0, .int .i64 0, .int .i64 0, .int .i64 0, .slice none 0 0, .int .i64 0, .int .i64 0, .int .i64 0, .int .i64 0, .slice none 0 0, .int .i64 0] 36) = W1 := hW1.symm
  rw [hg]
  clear hg hW1
  have hC1 : w.heap.size ≤ w1.heap.size := O1.out.size
  have hlt1 : 1 < w1.heap.size := T1.out.lt
  obtain ⟨C, hC⟩ : ∃ C, C = w1.heap.size := ⟨_, rfl⟩
  rw [← hC] at b1 hC1 hlt1 ⊢
  have OA := Lib.hid (O1.out.trans o1 (by simp))
  have TA := Lib.hid (T1.out.keep o1 (by simp))
  have BA := Lib.hid b1
  clear hC b1 o1 T1
  -- the first leader
  refine (new_any 0 _ (by omega) (by omega)).mono ?_
  rintro e w2 ⟨rfl, hl, ho⟩
  have b2 := ho.get0 BA.out
  have OB := Lib.hid (OA.out.trans ho (by simp))
  have TB := Lib.hid (TA.out.keep ho (by simp))
  have hx : C < W1.heap.size := hp_lt BA.out
  obtain ⟨x, hxe⟩ : ∃ x, x = W1.heap.size := ⟨_, rfl⟩
  rw [← hxe] at hl hx ⊢
  have LX := Lib.hid hl
  have BB := Lib.hid b2
  obtain ⟨l1, f1, d0, d1, d2⟩ := cblk_facts b2
  clear hl ho b2 hxe BA OA TA
  go_wp2_with fail
  rw [rounds_succ]
  go_wp2_with fail
  -- the second
  have oS : Only [C] w2 (w2.setCell ⟨C, 0, none⟩ (.pointer (some ⟨x, 0, none⟩))) := (Only.refl _ _).setCell _ _ _ (by simp)
  have bS := (cblk_set BB.out (some ⟨x, 0, none⟩)).1
  have lS : LB _ x (0 : Int) 0 0 0 0 none none 0 := oS.get LX.out (by simp; omega)
  have tS := TB.out.keep oS (by simp; omega)
  obtain ⟨W2, hW2⟩ : ∃ W2, W2 = w2.setCell ⟨C, 0, none⟩ (.pointer (some ⟨x, 0, none⟩)) := ⟨_, rfl⟩
  rw [← hW2] at oS bS lS tS ⊢
  clear hW2
  have OA := Lib.hid ((OB.out.mono (bs' := [C]) (by simp)).trans oS (fun x hx => .inl hx))
  refine (new_any 1 _ (by omega) (by omega)).mono ?_
  rintro e w3 ⟨rfl, hl, ho⟩
  have b3 := ho.get0 bS
  have BC := Lib.hid b3
  have LX2 := Lib.hid (show LB w3 x (0 : Int) 0 0 0 0 none none 0 from ho.get0 lS)
  have TC := Lib.hid (tS.keep ho (by simp))
  have OC := Lib.hid (OA.out.trans ho (by simp))
  have hxy : x < W2.heap.size := hp_lt lS
  obtain ⟨y, hye⟩ : ∃ y, y = W2.heap.size := ⟨_, rfl⟩
  rw [← hye] at hl hxy ⊢
  have LY := Lib.hid hl
  clear l1 f1 d0 d1 d2
  obtain ⟨l1, f1, d0, d1, d2⟩ := cblk_facts b3
  clear hl ho b3 hye oS bS lS tS OB BB TB LX OA
  go_wp2_with fail
  rw [rounds_succ]
  go_wp2_with fail
  -- the third
  have oS : Only [C] w3 (w3.setCell ⟨C, 1, none⟩ (.pointer (some ⟨y, 0, none⟩))) := (Only.refl _ _).setCell _ _ _ (by simp)
  have bS := (cblk_set BC.out (some ⟨y, 0, none⟩)).2.1
  have lS : LB _ x (0 : Int) 0 0 0 0 none none 0 := oS.get LX2.out (by simp; omega)
  have mS : LB _ y (1 : Int) 0 0 0 0 none none 0 := oS.get LY.out (by simp; omega)
  have tS := TC.out.keep oS (by simp; omega)
  obtain ⟨W3, hW3⟩ : ∃ W3, W3 = w3.setCell ⟨C, 1, none⟩ (.pointer (some ⟨y, 0, none⟩)) := ⟨_, rfl⟩
  rw [← hW3] at oS bS lS mS tS ⊢
  clear hW3
  have OA := Lib.hid (OC.out.trans oS (fun x hx => .inl hx))
  refine (new_any 2 _ (by omega) (by omega)).mono ?_
  rintro e w4 ⟨rfl, hl, ho⟩
  have b4 := ho.get0 bS
  have BD := Lib.hid b4
  have LX3 := Lib.hid (show LB w4 x (0 : Int) 0 0 0 0 none none 0 from ho.get0 lS)
  have LY3 := Lib.hid (show LB w4 y (1 : Int) 0 0 0 0 none none 0 from ho.get0 mS)
  have TD := Lib.hid (tS.keep ho (by simp))
  have OD := Lib.hid (OA.out.trans ho (by simp))
  have hyz : y < W3.heap.size := hp_lt mS
  obtain ⟨z, hze⟩ : ∃ z, z = W3.heap.size := ⟨_, rfl⟩
  rw [← hze] at hl hyz ⊢
  have LZ := Lib.hid hl
  clear l1 f1 d0 d1 d2
  obtain ⟨l1, f1, d0, d1, d2⟩ := cblk_facts b4
  clear hl ho b4 hze oS bS lS mS tS OC BC TC LX2 LY OA
  go_wp2_with fail
  rw [rounds_succ]
  go_wp2_with fail
  -- the council, at its beginning
  have oS : Only [C] w4 (w4.setCell ⟨C, 2, none⟩ (.pointer (some ⟨z, 0, none⟩))) := (Only.refl _ _).setCell _ _ _ (by simp)
  have bS := (cblk_set BD.out (some ⟨z, 0, none⟩)).2.2
  have lS : LB _ x (0 : Int) 0 0 0 0 none none 0 := oS.get LX3.out (by simp; omega)
  have mS : LB _ y (1 : Int) 0 0 0 0 none none 0 := oS.get LY3.out (by simp; omega)
  have nS : LB _ z (2 : Int) 0 0 0 0 none none 0 := oS.get LZ.out (by simp; omega)
  have tS := TD.out.keep oS (by simp; omega)
  obtain ⟨W4, hW4⟩ : ∃ W4, W4 = w4.setCell ⟨C, 2, none⟩ (.pointer (some ⟨z, 0, none⟩)) := ⟨_, rfl⟩
  rw [← hW4] at oS bS lS mS nS tS ⊢
  clear hW4
  have L0 : LI w C C (three x y z) 0 cn0 (fun _ => none) W4 :=
    { cm := cm0 bS lS mS nS hxy hyz hlt1 (Nat.le_refl _) (by omega) tS, inv := ⟨_, _, inv0⟩, upto := upto0, low := (OD.out.trans oS (fun x hx => .inl hx)).below (Nat.le_refl _) (by simp; omega) }
  obtain ⟨L, hL⟩ : ∃ L, L = three x y z := ⟨_, rfl⟩
  rw [← hL] at L0
  have LL := Lib.hid L0
  clear L0 hL oS bS lS mS nS tS l1 f1 d0 d1 d2 BD TD LX3 LY3 LZ OD hxy hyz hx O1
  go_loopw [7] (fun i wr => ∃ (j : Nat) (st : Cn) (mb : Nat → Option Nat), i = .int .i64 j ∧ j ≤ n ∧ j ≤ 80 ∧ LI w C C L j st mb wr) (fun i _ => n - (intOf i).toNat)
  case atStart => exact ⟨0, _, _, rfl, by omega, by omega, LL.out⟩
  case round =>
    obtain ⟨j, st, mb, rfl, hj, hj80, hli⟩ := hrel
    have LJ := Lib.hid hli
    clear hli LL
    by_cases hjn : j < n
    · by_cases hj8 : j < 80
      · obtain ⟨b, off, x, y, z, rfl, hbl, e0, e1, e2⟩ := HR.out j hjn
        have k0 := (LJ.out.low.cell (p := ⟨b, off + j * 3, none⟩) hbl).trans e0
        have k1 := (LJ.out.low.cell (p := ⟨b, off + j * 3 + 1, none⟩) hbl).trans e1
        have k2 := (LJ.out.low.cell (p := ⟨b, off + j * 3 + 2, none⟩) hbl).trans e2
        obtain ⟨who, hwho⟩ : ∃ who : Nat, x % 3 = (who : Int) := ⟨(x % 3).toNat, by omega⟩
        obtain ⟨whom, hwhom⟩ : ∃ whom : Nat, z % 3 = (whom : Int) := ⟨(z % 3).toNat, by omega⟩
        have hw3 : who < 3 := by omega
        have hm3 : whom < 3 := by omega
        have hjI : (j : Int) < (n : Int) := by omega
        have hch := LJ.out.cm.chs
        have HWHO := Lib.hid hwho
        have HWHOM := Lib.hid hwhom
        clear e0 e1 e2 hwho hwhom
        go_wp2_with fail
        go_quiet ((go_at_call 7; exact Calls.quiet_of_same (bringQ _ _ _)))
        rw [HWHO.out, HWHOM.out]
        go_wp2_with fail
        have LQ : LI w C C L j st mb (wr.drewN nq) := { cm := LJ.out.cm.keep0 ((Only.refl [] wr).drewN nq), inv := LJ.out.inv, upto := LJ.out.upto, low := LJ.out.low.trans (((Only.refl [] wr).drewN nq).below (Nat.le_trans (by omega) (LJ.out.low.size)) (by simp)) }
        obtain ⟨W, hW⟩ : ∃ W, W = wr.drewN nq := ⟨_, rfl⟩
        have hBr := Lib.hid (bring3 y (wr.drewN nq))
        rw [← hW] at LQ hBr ⊢
        have LI1 := Lib.hid LQ
        clear hW LQ LJ k0 k1 k2 hch
        obtain ⟨vo, val, hinv⟩ := LI1.out.inv
        have HI := Lib.hid hinv
        clear hinv
        by_cases hy : y % 3 = 0
        · have hyb : (y % 3 == 0) = true := by simp [hy]
          clear hy
          refine hBr.out.mono ?_
          rintro e w2 ⟨rfl, rfl⟩
          clear hBr
          go_wp2_with fail
          have hA := Lib.hid (asks_any C C who whom L mb st W LI1.out.cm hw3 hm3 (fun k hk => by have := HI.out.nums LI1.out.upto k hk; omega))
          refine hA.out.mono ?_
          rintro e w2 ⟨mb2, M, rfl, hcm, hM, hlow⟩
          clear hA
          have LI2 : LI w C C L (j + 1) (ask st who whom) mb2 w2 := { cm := hcm, inv := ⟨vo, val, HI.out.of_ask who whom hw3 hm3⟩, upto := (LI1.out.upto.of_ask who whom hw3).mono (by omega), low := LI1.out.low.trans (hlow.mono (by omega)) }
          have hp0 := hcm.ptr who hw3
          have hld : LdAt w2 (L who) who (some M) ((ask st who whom).ld who) := hM ▸ hcm.lds who hw3
          have HL2 := Lib.hid LI2
          have HLD := Lib.hid hld
          clear hcm hM hlow LI2 hld
          go_wp2_with fail
          by_cases hz : st.ch = 0
          · have hz' : (st.ch != 0) = false := by simp [hz]
            clear hz
            cases hbd : ((ask st who whom).ld who).bd with
            | none =>
              refine (boundC0 (L who) who M _ w2 HLD.out hbd).mono ?_
              rintro e w3 ⟨rfl, ho⟩
              have hp3 := cell_keep ho hp0 (by simp)
              have lc := HLD.out.cells
              have l8 := Lib.hid (cell_keep ho lc.1 (by simp))
              have l3 := Lib.hid (cell_keep ho lc.2.2 (by simp))
              have hCl : C < w3.heap.size := Nat.lt_of_lt_of_le HL2.out.cm.lt ho.size
              have HO := Lib.hid ho
              clear ho lc hp0
              go_wp2_with fail
              go_roundw
              case rel => exact ⟨j + 1, ask st who whom, mb2, by go_num, by omega, by omega, HL2.out.keep0 (HO.out.trans ((Only.refl [] _).alloc _) (by simp)) (by omega)⟩
              case measure => simp [intOf]; omega
            | some ub =>
              refine (boundC1 (L who) who M _ ub.1 ub.2 w2 HLD.out hbd).mono ?_
              rintro e w3 ⟨cc, rfl, ⟨ss, rfl, hss⟩, ho⟩
              obtain ⟨gg, gcap, rfl, _, _⟩ := hss.one
              clear hss
              have hp3 := cell_keep ho hp0 (by simp)
              have lc := HLD.out.cells
              have l8 := Lib.hid (cell_keep ho lc.1 (by simp))
              have l3 := Lib.hid (cell_keep ho lc.2.2 (by simp))
              have hCl : C < w3.heap.size := Nat.lt_of_lt_of_le HL2.out.cm.lt ho.size
              have HO := Lib.hid ho
              clear ho lc hp0
              go_wp2_with fail
              go_roundw
              case rel => exact ⟨j + 1, ask st who whom, mb2, by go_num, by omega, by omega, HL2.out.keep0 (HO.out.trans ((Only.refl [] _).alloc _) (by simp)) (by omega)⟩
              case measure => simp [intOf]; omega
          · have hz' : (st.ch != 0) = true := by simp [hz]
            by_cases hp2 : ((ask st who whom).ld who).ph = 2
            · obtain ⟨ub, hbd⟩ := HI.out.bound who whom hw3 hm3 hz hp2
              have hpb : (((ask st who whom).ld who).ph == 2) = true := by simp [hp2]
              clear hz hp2
              refine (boundC1 (L who) who M _ ub st.ch w2 HLD.out hbd).mono ?_
              rintro e w3 ⟨cc, rfl, ⟨ss, rfl, hss⟩, ho⟩
              obtain ⟨gg, gcap, rfl, _, hgg⟩ := hss.one
              clear hss
              have hgg2 := cell_alloc_l (.cells #[.int .i64 1, .int .i64 1, .slice (some ⟨gg, 0, none⟩) 1 gcap] 29) hgg
              have hne : (st.ch != st.ch) = false := by simp
              have hp3 := cell_keep ho hp0 (by simp)
              have lc := HLD.out.cells
              have l8 := Lib.hid (cell_keep ho lc.1 (by simp))
              have l3 := Lib.hid (cell_keep ho lc.2.2 (by simp))
              have hCl : C < w3.heap.size := Nat.lt_of_lt_of_le HL2.out.cm.lt ho.size
              have HO := Lib.hid ho
              clear ho lc hp0
              go_wp2_with fail
              refine (phase_any (L who) (((ask st who whom).ld who).ph) _ (cell_alloc_l _ l8.out) (cell_alloc_l _ l3.out)).mono ?_
              rintro e w4 ⟨rfl, rfl⟩
              go_wp2_with fail
              go_roundw
              case rel => exact ⟨j + 1, ask st who whom, mb2, by go_num, by omega, by omega, HL2.out.keep0 (HO.out.trans ((Only.refl [] _).alloc _) (by simp)) (by omega)⟩
              case measure => simp [intOf]; omega
            · have hpb : (((ask st who whom).ld who).ph == 2) = false := by simp [hp2]
              clear hz hp2
              cases hbd : ((ask st who whom).ld who).bd with
              | none =>
                refine (boundC0 (L who) who M _ w2 HLD.out hbd).mono ?_
                rintro e w3 ⟨rfl, ho⟩
                have hp3 := cell_keep ho hp0 (by simp)
                have lc := HLD.out.cells
                have l8 := Lib.hid (cell_keep ho lc.1 (by simp))
                have l3 := Lib.hid (cell_keep ho lc.2.2 (by simp))
                have hCl : C < w3.heap.size := Nat.lt_of_lt_of_le HL2.out.cm.lt ho.size
                have HO := Lib.hid ho
                clear ho lc hp0
                go_wp2_with fail
                refine (phase_any (L who) (((ask st who whom).ld who).ph) _ (cell_alloc_l _ l8.out) (cell_alloc_l _ l3.out)).mono ?_
                rintro e w4 ⟨rfl, rfl⟩
                go_wp2_with fail
                go_roundw
                case rel => exact ⟨j + 1, ask st who whom, mb2, by go_num, by omega, by omega, HL2.out.keep0 (HO.out.trans ((Only.refl [] _).alloc _) (by simp)) (by omega)⟩
                case measure => simp [intOf]; omega
              | some ub =>
                refine (boundC1 (L who) who M _ ub.1 ub.2 w2 HLD.out hbd).mono ?_
                rintro e w3 ⟨cc, rfl, ⟨ss, rfl, hss⟩, ho⟩
                obtain ⟨gg, gcap, rfl, _, _⟩ := hss.one
                clear hss
                have hp3 := cell_keep ho hp0 (by simp)
                have lc := HLD.out.cells
                have l8 := Lib.hid (cell_keep ho lc.1 (by simp))
                have l3 := Lib.hid (cell_keep ho lc.2.2 (by simp))
                have hCl : C < w3.heap.size := Nat.lt_of_lt_of_le HL2.out.cm.lt ho.size
                have HO := Lib.hid ho
                clear ho lc hp0
                go_wp2_with fail
                refine (phase_any (L who) (((ask st who whom).ld who).ph) _ (cell_alloc_l _ l8.out) (cell_alloc_l _ l3.out)).mono ?_
                rintro e w4 ⟨rfl, rfl⟩
                go_wp2_with fail
                go_roundw
                case rel => exact ⟨j + 1, ask st who whom, mb2, by go_num, by omega, by omega, HL2.out.keep0 (HO.out.trans ((Only.refl [] _).alloc _) (by simp)) (by omega)⟩
                case measure => simp [intOf]; omega
        · have hyb : (y % 3 == 0) = false := by simp [hy]
          clear hy
          refine hBr.out.mono ?_
          rintro e w2 ⟨rfl, rfl⟩
          clear hBr
          go_wp2_with fail
          have hA := Lib.hid (proposes_any C C who whom L mb st W LI1.out.cm hw3 hm3 (HI.out.tells who whom hw3 hm3))
          refine hA.out.mono ?_
          rintro e w2 ⟨mb2, rfl, hcm, hlow⟩
          clear hA
          have LI2 : LI w C C L (j + 1) (say st who whom) mb2 w2 := { cm := hcm, inv := HI.out.of_say who whom hw3 hm3, upto := (LI1.out.upto.of_say who whom hw3).mono (by omega), low := LI1.out.low.trans (hlow.mono (by omega)) }
          have HL2 := Lib.hid LI2
          clear hcm hlow LI2
          go_wp2_with fail
          go_roundw
          case rel => exact ⟨j + 1, _, _, by go_num, by omega, by omega, HL2.out⟩
          case measure => simp [intOf]; omega
      · go_wp2_with fail
        go_ret
        exact ⟨rfl, LJ.out.low⟩
    · go_wp2_with fail
      go_ret
      exact ⟨rfl, LJ.out.low⟩
end Go.Proofs.YtlmkiekdkonofaaDoor
