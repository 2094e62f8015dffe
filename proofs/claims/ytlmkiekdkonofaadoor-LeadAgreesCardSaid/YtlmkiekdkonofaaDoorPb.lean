/-
  THE COUNCIL AGREES: an invariant of asking and of proposing, with which votes were ever cast and which replica each ballot stands for; what is chosen is one thing, and binds who leads with a greater ballot.
-/
import Derived.Test.YtlmkiekdkonofaaDoorPa
namespace Go.Proofs.YtlmkiekdkonofaaDoor

theorem bit_orB : ∀ s, s < 8 → ∀ k, k < 3 → ∀ j, j < 3 → (orB s k).testBit j = (s.testBit j || decide (j = k)) := by decide
theorem two_bits (s : Nat) (h : s < 8) (hc : 2 ≤ cnt s) : ∃ i j, i < 3 ∧ j < 3 ∧ i ≠ j ∧ s.testBit i = true ∧ s.testBit j = true := by
  have key : ∀ s, s < 8 → 2 ≤ cnt s → (s.testBit 0 = true ∧ s.testBit 1 = true) ∨ (s.testBit 0 = true ∧ s.testBit 2 = true) ∨ (s.testBit 1 = true ∧ s.testBit 2 = true) := by decide
  rcases key s h hc with ⟨a, b⟩ | ⟨a, b⟩ | ⟨a, b⟩
  · exact ⟨0, 1, by decide, by decide, by decide, a, b⟩
  · exact ⟨0, 2, by decide, by decide, by decide, a, b⟩
  · exact ⟨1, 2, by decide, by decide, by decide, a, b⟩

/-- Two voters have not voted at c, and never will. -/
def Blk (st : Cn) (vo : Nat → Int → Prop) (c : Int) : Prop := ∃ i j, i < 3 ∧ j < 3 ∧ i ≠ j ∧ (¬ vo i c ∧ c < st.pr i) ∧ (¬ vo j c ∧ c < st.pr j)
/-- Below b nothing but v can have been chosen, nor will be. -/
def Safe (st : Cn) (vo : Nat → Int → Prop) (val : Int → Option Int) (b v : Int) : Prop := ∀ c, 1 ≤ c → c < b → val c = some v ∨ Blk st vo c
/-- What binds a leader of ballot b. -/
def Binds (st : Cn) (vo : Nat → Int → Prop) (val : Int → Option Int) (b : Int) : Option (Int × Int) → Prop
  | none => ∀ c, 1 ≤ c → c < b → Blk st vo c
  | some (_, v) => Safe st vo val b v

structure Inv (st : Cn) (vo : Nat → Int → Prop) (val : Int → Option Int) : Prop where
  vo1 : ∀ k, k < 3 → ∀ b, vo k b → 1 ≤ b ∧ b ≤ st.vb k ∧ ∃ v, val b = some v
  vbz : ∀ k, k < 3 → 0 ≤ st.vb k ∧ st.vb k ≤ st.pr k
  vbv : ∀ k, k < 3 → st.vb k ≠ 0 → vo k (st.vb k) ∧ val (st.vb k) = some (st.vv k)
  safe : ∀ b v, val b = some v → 1 ≤ b ∧ Safe st vo val b v
  own : ∀ i : Nat, i < 3 → ∀ b : Int, b % 3 = i → (st.ld i).bal < b → val b = none
  bal : ∀ i : Nat, i < 3 → 0 ≤ (st.ld i).bal ∧ ((st.ld i).bal ≠ 0 → (st.ld i).bal % 3 = i)
  lead2 : ∀ i, i < 3 → (st.ld i).ph = 2 → 1 ≤ (st.ld i).bal ∧ Binds st vo val (st.ld i).bal (st.ld i).bd
  pend1 : ∀ i, i < 3 → ∀ p, (st.ld i).pend = some p → (st.ld i).ph = 2 ∧ val (st.ld i).bal = some p ∧ (st.ld i).sd < 8 ∧ ∀ k, k < 3 → (st.ld i).sd.testBit k = true → vo k (st.ld i).bal
  fresh : ∀ i, i < 3 → (st.ld i).ph = 2 → (st.ld i).pend = none → (st.ld i).frm ≤ 1 → val (st.ld i).bal = none
  chos : st.ch ≠ 0 → ∃ c, 1 ≤ c ∧ val c = some st.ch ∧ ∃ i j, i < 3 ∧ j < 3 ∧ i ≠ j ∧ vo i c ∧ vo j c

variable {st st' : Cn} {vo vo' : Nat → Int → Prop} {val val' : Int → Option Int}

theorem Blk.mono {c : Int} (h : Blk st vo c) (hp : ∀ k, k < 3 → st.pr k ≤ st'.pr k) : Blk st' vo c := by
  obtain ⟨i, j, hi, hj, hn, ⟨a, b⟩, c', d⟩ := h
  exact ⟨i, j, hi, hj, hn, ⟨a, Int.lt_of_lt_of_le b (hp i hi)⟩, c', Int.lt_of_lt_of_le d (hp j hj)⟩
theorem Safe.mono {b v : Int} (h : Safe st vo val b v) (hp : ∀ k, k < 3 → st.pr k ≤ st'.pr k) : Safe st' vo val b v := fun c h1 h2 => (h c h1 h2).imp id (·.mono hp)
theorem Binds.mono {b : Int} {o : Option (Int × Int)} (h : Binds st vo val b o) (hp : ∀ k, k < 3 → st.pr k ≤ st'.pr k) : Binds st' vo val b o := by
  cases o with
  | none => exact fun c h1 h2 => (h c h1 h2).mono hp
  | some x => exact Safe.mono (st := st) h hp

/-- A quorum that has voted is not blocked. -/
theorem not_blk {c : Int} (h : ∃ i j, i < 3 ∧ j < 3 ∧ i ≠ j ∧ vo i c ∧ vo j c) (hb : Blk st vo c) : False := by
  obtain ⟨i, j, hi, hj, hn, a, b⟩ := h
  obtain ⟨i', j', hi', hj', hn', ⟨a', _⟩, b', _⟩ := hb
  rcases (by omega : i = i' ∨ i = j' ∨ j = i' ∨ j = j') with e | e | e | e
  · exact a' (e ▸ a)
  · exact b' (e ▸ a)
  · exact a' (e ▸ b)
  · exact b' (e ▸ b)

theorem nextB_facts (id m : Int) (h0 : 0 ≤ id) (h1 : id < 3) : m < nextB id m ∧ nextB id m ≤ m + 3 ∧ nextB id m % 3 = id := by
  unfold nextB
  omega

/-- Nothing but a leader that does not lead has changed. -/
theorem Inv.leader (h : Inv st vo val) (who : Nat) (hw : who < 3) (l : Ld) (hph : l.ph ≠ 2) (hpd : l.pend = none) (hb : (st.ld who).bal ≤ l.bal) (hm : l.bal ≠ 0 → l.bal % 3 = who) :
    Inv { st with ld := put st.ld who l } vo val := by
  have hl0 := (h.bal who hw).1
  refine { vo1 := h.vo1, vbz := h.vbz, vbv := h.vbv, safe := h.safe, own := ?_, bal := ?_, lead2 := ?_, pend1 := ?_, fresh := ?_, chos := h.chos }
  · intro i hi b hb1 hb2
    by_cases e : i = who
    · subst e; simp only [put_same] at hb2; exact h.own i hi b hb1 (by omega)
    · simp only [put_other _ _ _ e] at hb2; exact h.own i hi b hb1 hb2
  · intro i hi
    by_cases e : i = who
    · subst e; simp only [put_same]; exact ⟨by omega, hm⟩
    · simp only [put_other _ _ _ e]; exact h.bal i hi
  · intro i hi
    by_cases e : i = who
    · subst e; simp only [put_same]; intro h2; exact absurd h2 hph
    · simp only [put_other _ _ _ e]; exact h.lead2 i hi
  · intro i hi p
    by_cases e : i = who
    · subst e; simp only [put_same, hpd]; intro h2; cases h2
    · simp only [put_other _ _ _ e]; exact h.pend1 i hi p
  · intro i hi
    by_cases e : i = who
    · subst e; simp only [put_same]; intro h2; exact absurd h2 hph
    · simp only [put_other _ _ _ e]; exact h.fresh i hi

theorem Inv.of_start (h : Inv st vo val) (who : Nat) (hw : who < 3) : Inv (start st who) vo val := by
  have hn := nextB_facts who (max (st.pr who) (st.ld who).bal) (by omega) (by omega)
  refine h.leader who hw (started (newB st who)) (by simp [started]) rfl ?_ ?_
  · simp only [started, newB]; omega
  · intro _; simp only [started, newB]; omega

theorem Inv.of_refused (h : Inv st vo val) (who k : Nat) (hw : who < 3) : Inv (refused st who k) vo val := by
  unfold refused
  split
  · exact h
  · exact h.leader who hw _ (by simp) rfl (Int.le_refl _) (h.bal who hw).2

/-- A promise: who then leads must be bound. -/
theorem Inv.of_rnd (h : Inv st vo val) (who k : Nat) (hw : who < 3) (hk : k < 3) (hlt : st.pr k < (st.ld who).bal) (hpd : (st.ld who).pend = none) (hfr : val (st.ld who).bal = none)
    (hH : phB (orB (st.ld who).pm k) = 2 → Binds (rnd st who k) vo val (st.ld who).bal (bind1 (st.ld who).bd (st.vb k) (st.vv k))) : Inv (rnd st who k) vo val := by
  have hv := h.vbz k hk
  have hp : ∀ j, j < 3 → st.pr j ≤ (rnd st who k).pr j := by
    intro j _
    simp only [rnd]
    by_cases e : j = k
    · subst e; rw [put_same]; omega
    · rw [put_other _ _ _ e]; exact Int.le_refl _
  refine { vo1 := h.vo1, vbz := ?_, vbv := h.vbv, safe := fun b v hb => ⟨(h.safe b v hb).1, (h.safe b v hb).2.mono hp⟩, own := ?_, bal := ?_, lead2 := ?_, pend1 := ?_, fresh := ?_, chos := h.chos }
  · intro j hj
    exact ⟨(h.vbz j hj).1, Int.le_trans (h.vbz j hj).2 (hp j hj)⟩
  · intro i hi b hb1 hb2
    by_cases e : i = who
    · subst e; simp only [rnd, put_same, promised] at hb2; exact h.own i hi b hb1 hb2
    · simp only [rnd, put_other _ _ _ e] at hb2; exact h.own i hi b hb1 hb2
  · intro i hi
    by_cases e : i = who
    · subst e; simp only [rnd, put_same, promised]; exact h.bal i hi
    · simp only [rnd, put_other _ _ _ e]; exact h.bal i hi
  · intro i hi
    by_cases e : i = who
    · subst e
      intro h2
      have e1 : (rnd st i k).ld i = promised (st.ld i) k (st.vb k) (st.vv k) := by simp [rnd, put_same]
      rw [e1] at h2 ⊢
      exact ⟨by simp only [promised]; omega, hH h2⟩
    · have e1 : (rnd st who k).ld i = st.ld i := by simp [rnd, put_other _ _ _ e]
      rw [e1]
      intro h2
      exact ⟨(h.lead2 i hi h2).1, (h.lead2 i hi h2).2.mono hp⟩
  · intro i hi p
    by_cases e : i = who
    · subst e; simp only [rnd, put_same, promised, hpd]; intro h2; cases h2
    · simp only [rnd, put_other _ _ _ e]; exact h.pend1 i hi p
  · intro i hi
    by_cases e : i = who
    · subst e; simp only [rnd, put_same, promised]; intro _ _ _; exact hfr
    · simp only [rnd, put_other _ _ _ e]; exact h.fresh i hi

/-- Of two voters that have promised b the greatest vote is safe. -/
theorem Inv.most (h : Inv st vo val) (b : Int) (k k' : Nat) (hk : k < 3) (hk' : k' < 3) (hne : k ≠ k') (hb : b ≤ st'.pr k) (hb' : b ≤ st'.pr k') (hp : ∀ j, j < 3 → st.pr j ≤ st'.pr j) (hv : st.vb k ≠ 0) (hle : st.vb k' ≤ st.vb k) :
    Safe st' vo val b (st.vv k) := by
  intro c h1 h2
  obtain ⟨hvo, hval⟩ := h.vbv k hk hv
  rcases Int.lt_trichotomy c (st.vb k) with hc | hc | hc
  · exact ((h.safe _ _ hval).2 c h1 hc).imp id (·.mono hp)
  · left; rw [hc]; exact hval
  · right
    refine ⟨k, k', hk, hk', hne, ⟨fun hx => ?_, by omega⟩, fun hx => ?_, by omega⟩
    · have := (h.vo1 k hk c hx).2.1; omega
    · have := (h.vo1 k' hk' c hx).2.1; omega

theorem Inv.none_voted (h : Inv st vo val) (b : Int) (k k' : Nat) (hk : k < 3) (hk' : k' < 3) (hne : k ≠ k') (hb : b ≤ st'.pr k) (hb' : b ≤ st'.pr k') (hv : st.vb k = 0) (hv' : st.vb k' = 0) : Binds st' vo val b none := by
  intro c h1 h2
  refine ⟨k, k', hk, hk', hne, ⟨fun hx => ?_, by omega⟩, fun hx => ?_, by omega⟩
  · have := (h.vo1 k hk c hx).2.1; omega
  · have := (h.vo1 k' hk' c hx).2.1; omega

theorem behind_ne (k : Nat) (hk : k < 3) : behind k ≠ k ∧ behind k < 3 := by unfold behind; have := hk; omega
theorem phB_orB (k : Nat) (hk : k < 3) : phB (orB 0 k) = 1 ∧ phB (orB (orB 0 k) (behind k)) = 2 ∧ orB 0 k < 8 := by
  have : k = 0 ∨ k = 1 ∨ k = 2 := by omega
  rcases this with rfl | rfl | rfl <;> decide

theorem Inv.of_ask (h : Inv st vo val) (who whom : Nat) (hw : who < 3) (hk : whom < 3) : Inv (ask st who whom) vo val := by
  have h0 := h.of_start who hw
  have hn := nextB_facts who (max (st.pr who) (st.ld who).bal) (by omega) (by omega)
  have hb := behind_ne whom hk
  have hph := phB_orB whom hk
  have e0 : (start st who).ld who = started (newB st who) := by simp [start, put_same]
  have hfr : val (newB st who) = none := h.own who hw _ hn.2.2 (by simp only [newB]; omega)
  unfold ask
  dsimp only
  split
  · exact h0.of_refused who whom hw
  · rename_i hlt
    have hlt' : (start st who).pr whom < ((start st who).ld who).bal := by omega
    have h1 : Inv (rnd (start st who) who whom) vo val :=
      h0.of_rnd who whom hw hk hlt' (by rw [e0]; rfl) (by rw [e0]; exact hfr) (by rw [e0]; simp only [started]; rw [hph.1]; intro h2; cases h2)
    have e1 : (rnd (start st who) who whom).ld who = promised (started (newB st who)) whom (st.vb whom) (st.vv whom) := by
      simp only [rnd, put_same, e0]; rfl
    split
    · exact h1.of_refused who (behind whom) hw
    · rename_i hlt2
      have p0 : (rnd (rnd (start st who) who whom) who (behind whom)).pr whom = newB st who := by
        simp only [rnd, put_other _ _ _ hb.1.symm, put_same, e0]; rfl
      have p1 : (rnd (rnd (start st who) who whom) who (behind whom)).pr (behind whom) = newB st who := by
        simp only [rnd, put_same, e0]; rfl
      have hq : (st.pr (behind whom)) < newB st who := by
        simp only [rnd, put_same, put_other _ _ _ hb.1, e0] at hlt2
        simp only [start, started, promised] at hlt2
        omega
      have hq0 : st.pr whom < newB st who := by
        rw [e0] at hlt'
        exact hlt'
      have hp : ∀ j, j < 3 → st.pr j ≤ (rnd (rnd (start st who) who whom) who (behind whom)).pr j := by
        intro j _
        by_cases ea : j = behind whom
        · subst ea; rw [p1]; omega
        · by_cases eb : j = whom
          · subst eb; rw [p0]; omega
          · simp only [rnd, put_other _ _ _ ea, put_other _ _ _ eb]; exact Int.le_refl _
      refine h1.of_rnd who (behind whom) hw hb.2 (by omega) (by rw [e1]; rfl) (by rw [e1]; exact hfr) ?_
      intro _
      rw [e1]
      have hz := h.vbz whom hk
      have hz' := h.vbz (behind whom) hb.2
      show Binds _ vo val (newB st who) (bind1 (bind1 none (st.vb whom) (st.vv whom)) (st.vb (behind whom)) (st.vv (behind whom)))
      unfold bind1
      by_cases ha : st.vb whom = 0
      · by_cases hc : st.vb (behind whom) = 0
        · simp only [ha, hc, if_true]
          exact h.none_voted _ whom (behind whom) hk hb.2 hb.1.symm (by omega) (by omega) ha hc
        · simp only [ha, hc, if_true, if_false]
          exact h.most _ (behind whom) whom hb.2 hk hb.1 (by omega) (by omega) hp hc (by omega)
      · by_cases hc : st.vb (behind whom) = 0
        · simp only [ha, hc, if_true, if_false]
          exact h.most _ whom (behind whom) hk hb.2 hb.1.symm (by omega) (by omega) hp ha (by omega)
        · simp only [ha, hc, if_false]
          by_cases hd : st.vb whom < st.vb (behind whom)
          · simp only [hd, if_true]
            exact h.most _ (behind whom) whom hb.2 hk hb.1 (by omega) (by omega) hp hc (by omega)
          · simp only [hd, if_false]
            exact h.most _ whom (behind whom) hk hb.2 hb.1.symm (by omega) (by omega) hp ha (by omega)

end Go.Proofs.YtlmkiekdkonofaaDoor
