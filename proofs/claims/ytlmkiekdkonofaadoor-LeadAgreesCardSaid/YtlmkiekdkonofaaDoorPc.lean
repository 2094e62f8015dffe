/-
  THE COUNCIL AGREES, its second half: proposing keeps the invariant; what is chosen is what was chosen; who leads behind a choice is bound to it.
-/
import Derived.Test.YtlmkiekdkonofaaDoorPb
namespace Go.Proofs.YtlmkiekdkonofaaDoor

variable {st st' : Cn} {vo vo' : Nat → Int → Prop} {val val' : Int → Option Int}

/-- A leader's ballot is its own. -/
theorem Inv.apart (h : Inv st vo val) (i j : Nat) (hi : i < 3) (hj : j < 3) (hne : i ≠ j) (h2 : (st.ld i).ph = 2) : (st.ld i).bal ≠ (st.ld j).bal := by
  intro e
  have a := (h.lead2 i hi h2).1
  have b := (h.bal i hi).2 (by omega)
  have c := (h.bal j hj).2 (by omega)
  rw [e] at b
  omega

/-- A proposal. -/
theorem Inv.of_proposed (h : Inv st vo val) (who : Nat) (hw : who < 3) (hm : may (st.ld who)) (hpd : (st.ld who).pend = none) :
    Inv { st with ld := put st.ld who (proposed (st.ld who) (toSay (st.ld who) who)) } vo (fun b => if b = (st.ld who).bal then some (toSay (st.ld who) who) else val b) := by
  have hl := h.lead2 who hw hm.1
  have hfr := h.fresh who hw hm.1 hpd hm.2
  have hvx : ∀ b v, val b = some v → b ≠ (st.ld who).bal := by
    intro b v hb e
    rw [e, hfr] at hb
    cases hb
  have hval : ∀ b v, val b = some v → (fun b => if b = (st.ld who).bal then some (toSay (st.ld who) who) else val b) b = some v := by
    intro b v hb
    simp only [if_neg (hvx b v hb)]
    exact hb
  have hsm : ∀ b v, Safe st vo val b v → Safe { st with ld := put st.ld who (proposed (st.ld who) (toSay (st.ld who) who)) } vo (fun b => if b = (st.ld who).bal then some (toSay (st.ld who) who) else val b) b v := by
    intro b v hs c h1 h2
    rcases hs c h1 h2 with h3 | h3
    · exact .inl (hval c v h3)
    · exact .inr (h3.mono (fun _ _ => Int.le_refl _))
  have hbm : ∀ b o, Binds st vo val b o → Binds { st with ld := put st.ld who (proposed (st.ld who) (toSay (st.ld who) who)) } vo (fun b => if b = (st.ld who).bal then some (toSay (st.ld who) who) else val b) b o := by
    intro b o hs
    cases o with
    | none => exact fun c h1 h2 => (hs c h1 h2).mono (fun _ _ => Int.le_refl _)
    | some x => exact hsm b x.2 hs
  refine { vo1 := ?_, vbz := h.vbz, vbv := ?_, safe := ?_, own := ?_, bal := ?_, lead2 := ?_, pend1 := ?_, fresh := ?_, chos := ?_ }
  · intro k hk b hb
    obtain ⟨a, c, v, hv⟩ := h.vo1 k hk b hb
    exact ⟨a, c, v, hval b v hv⟩
  · intro k hk hv
    exact ⟨(h.vbv k hk hv).1, hval _ _ (h.vbv k hk hv).2⟩
  · intro b v hb
    by_cases e : b = (st.ld who).bal
    · subst e
      simp only [if_true, Option.some.injEq] at hb
      subst hb
      refine ⟨hl.1, ?_⟩
      have h3 := hl.2
      unfold toSay
      cases hbd : (st.ld who).bd with
      | none =>
        rw [hbd] at h3
        exact fun c h1 h2 => .inr ((h3 c h1 h2).mono (fun _ _ => Int.le_refl _))
      | some x =>
        rw [hbd] at h3
        have h4 := hsm _ _ (show Safe st vo val (st.ld who).bal x.2 from h3)
        simp only [toSay, hbd] at h4
        exact h4
    · simp only [if_neg e] at hb
      exact ⟨(h.safe b v hb).1, hsm b v (h.safe b v hb).2⟩
  · intro i hi b hb1 hb2
    have hne : b ≠ (st.ld who).bal := by
      intro e
      by_cases ei : i = who
      · subst ei; simp only [put_same, proposed] at hb2; omega
      · have := (h.bal who hw).2 (by omega); rw [e] at hb1; omega
    simp only [if_neg hne]
    by_cases ei : i = who
    · subst ei; simp only [put_same, proposed] at hb2; exact h.own i hi b hb1 hb2
    · simp only [put_other _ _ _ ei] at hb2; exact h.own i hi b hb1 hb2
  · intro i hi
    by_cases ei : i = who
    · subst ei; simp only [put_same, proposed]; exact h.bal i hi
    · simp only [put_other _ _ _ ei]; exact h.bal i hi
  · intro i hi h2
    by_cases ei : i = who
    · subst ei; simp only [put_same, proposed] at h2 ⊢; exact ⟨hl.1, hbm _ _ hl.2⟩
    · simp only [put_other _ _ _ ei] at h2 ⊢; exact ⟨(h.lead2 i hi h2).1, hbm _ _ (h.lead2 i hi h2).2⟩
  · intro i hi p
    by_cases ei : i = who
    · subst ei
      simp only [put_same, proposed, Option.some.injEq, if_true]
      intro hp
      exact ⟨hm.1, hp, by decide, fun k _ hk => by simp at hk⟩
    · simp only [put_other _ _ _ ei]
      intro hp
      obtain ⟨a, b, c, d⟩ := h.pend1 i hi p hp
      exact ⟨a, hval _ _ b, c, d⟩
  · intro i hi
    by_cases ei : i = who
    · subst ei; simp only [put_same, proposed]; intro _ h2; cases h2
    · simp only [put_other _ _ _ ei]
      intro h2 h3 h4
      rw [if_neg (h.apart i who hi hw ei h2)]
      exact h.fresh i hi h2 h3 h4
  · intro hc
    obtain ⟨c, h1, h2, h3⟩ := h.chos hc
    exact ⟨c, h1, hval c _ h2, h3⟩

/-- A vote for what is pending. -/
theorem Inv.of_voted (h : Inv st vo val) (who whom : Nat) (hw : who < 3) (hk : whom < 3) (p : Int) (hp : (st.ld who).pend = some p) (hle : st.pr whom ≤ (st.ld who).bal) :
    Inv (voted1 st who whom p) (fun k b => vo k b ∨ (k = whom ∧ b = (st.ld who).bal)) val := by
  obtain ⟨h2, hval, hsd, hbits⟩ := h.pend1 who hw p hp
  have hl := h.lead2 who hw h2
  have hvz := h.vbz whom hk
  have hpr : ∀ j, j < 3 → st.pr j ≤ (voted1 st who whom p).pr j := by
    intro j _
    simp only [voted1]
    by_cases e : j = whom
    · subst e; rw [put_same]; exact hle
    · rw [put_other _ _ _ e]; exact Int.le_refl _
  have hblk : ∀ c, Blk st vo c → Blk (voted1 st who whom p) (fun k b => vo k b ∨ (k = whom ∧ b = (st.ld who).bal)) c := by
    rintro c ⟨i, j, hi, hj, hn, ⟨a, b⟩, d, e⟩
    refine ⟨i, j, hi, hj, hn, ⟨?_, Int.lt_of_lt_of_le b (hpr i hi)⟩, ?_, Int.lt_of_lt_of_le e (hpr j hj)⟩
    · rintro (x | ⟨x, y⟩)
      · exact a x
      · subst x; omega
    · rintro (x | ⟨x, y⟩)
      · exact d x
      · subst x; omega
  have hsm : ∀ b v, Safe st vo val b v → Safe (voted1 st who whom p) (fun k b => vo k b ∨ (k = whom ∧ b = (st.ld who).bal)) val b v := fun b v hs c h1 h2 => (hs c h1 h2).imp id (hblk c)
  have hbm : ∀ b o, Binds st vo val b o → Binds (voted1 st who whom p) (fun k b => vo k b ∨ (k = whom ∧ b = (st.ld who).bal)) val b o := by
    intro b o hs
    cases o with
    | none => exact fun c h1 h2 => hblk c (hs c h1 h2)
    | some x => exact hsm b x.2 hs
  have hold : ∀ i, i ≠ who → (voted1 st who whom p).ld i = st.ld i := fun i e => by simp [voted1, put_other _ _ _ e]
  have hnb : ((voted1 st who whom p).ld who).bal = (st.ld who).bal := by simp only [voted1, put_same]; split <;> rfl
  have hnp : ((voted1 st who whom p).ld who).ph = (st.ld who).ph := by simp only [voted1, put_same]; split <;> rfl
  have hnd : ((voted1 st who whom p).ld who).bd = (st.ld who).bd := by simp only [voted1, put_same]; split <;> rfl
  refine { vo1 := ?_, vbz := ?_, vbv := ?_, safe := fun b v hb => ⟨(h.safe b v hb).1, hsm b v (h.safe b v hb).2⟩, own := ?_, bal := ?_, lead2 := ?_, pend1 := ?_, fresh := ?_, chos := ?_ }
  · intro k hk3 b hb
    simp only [voted1]
    rcases hb with hb | ⟨hb, hb'⟩
    · obtain ⟨a, c, d⟩ := h.vo1 k hk3 b hb
      refine ⟨a, ?_, d⟩
      by_cases e : k = whom
      · subst e; rw [put_same]; omega
      · rw [put_other _ _ _ e]; exact c
    · subst hb; subst hb'
      rw [put_same]
      exact ⟨hl.1, Int.le_refl _, p, hval⟩
  · intro k hk3
    simp only [voted1]
    by_cases e : k = whom
    · subst e; rw [put_same, put_same]; omega
    · rw [put_other _ _ _ e, put_other _ _ _ e]; exact h.vbz k hk3
  · intro k hk3
    simp only [voted1]
    by_cases e : k = whom
    · subst e
      simp only [put_same]
      intro _
      exact ⟨.inr ⟨trivial, trivial⟩, hval⟩
    · rw [put_other _ _ _ e, put_other _ _ _ e]
      intro hv
      exact ⟨.inl (h.vbv k hk3 hv).1, (h.vbv k hk3 hv).2⟩
  · intro i hi b hb1 hb2
    by_cases e : i = who
    · subst e; rw [hnb] at hb2; exact h.own i hi b hb1 hb2
    · rw [hold i e] at hb2; exact h.own i hi b hb1 hb2
  · intro i hi
    by_cases e : i = who
    · subst e; rw [hnb]; exact h.bal i hi
    · rw [hold i e]; exact h.bal i hi
  · intro i hi hh
    by_cases e : i = who
    · subst e; rw [hnb, hnd]; exact ⟨hl.1, hbm _ _ hl.2⟩
    · rw [hold i e] at hh ⊢; exact ⟨(h.lead2 i hi hh).1, hbm _ _ (h.lead2 i hi hh).2⟩
  · intro i hi q
    by_cases e : i = who
    · subst e
      intro hq
      rw [hnp, hnb]
      by_cases hc : 2 ≤ cnt (orB (st.ld i).sd whom)
      · simp [voted1, put_same, hc] at hq
      · have hq' : (st.ld i).pend = some q := by simpa [voted1, put_same, hc] using hq
        rw [hp] at hq'
        cases hq'
        have e3 : ((voted1 st i whom p).ld i).sd = orB (st.ld i).sd whom := by simp [voted1, put_same, hc]
        rw [e3]
        refine ⟨h2, hval, orB_lt _ _ hsd hk, fun k hk3 hb => ?_⟩
        rw [bit_orB _ hsd _ hk _ hk3] at hb
        by_cases ek : k = whom
        · exact .inr ⟨ek, rfl⟩
        · simp [ek] at hb
          exact .inl (hbits k hk3 hb)
    · rw [hold i e]
      intro hq
      obtain ⟨a, b, c, d⟩ := h.pend1 i hi q hq
      exact ⟨a, b, c, fun k hk3 hb => .inl (d k hk3 hb)⟩
  · intro i hi
    by_cases e : i = who
    · subst e
      intro _ hpn hf
      by_cases hc : 2 ≤ cnt (orB (st.ld i).sd whom)
      · simp [voted1, put_same, hc] at hf
      · simp [voted1, put_same, hc, hp] at hpn
    · rw [hold i e]; exact h.fresh i hi
  · intro hch
    by_cases hc : 2 ≤ cnt (orB (st.ld who).sd whom)
    · have e3 : (voted1 st who whom p).ch = p := by simp [voted1, hc]
      rw [e3]
      obtain ⟨i, j, hi, hj, hn, bi, bj⟩ := two_bits _ (orB_lt _ _ hsd hk) hc
      refine ⟨(st.ld who).bal, hl.1, hval, i, j, hi, hj, hn, ?_, ?_⟩
      · rw [bit_orB _ hsd _ hk _ hi] at bi
        by_cases ek : i = whom
        · exact .inr ⟨ek, rfl⟩
        · simp [ek] at bi
          exact .inl (hbits i hi bi)
      · rw [bit_orB _ hsd _ hk _ hj] at bj
        by_cases ek : j = whom
        · exact .inr ⟨ek, rfl⟩
        · simp [ek] at bj
          exact .inl (hbits j hj bj)
    · have e3 : (voted1 st who whom p).ch = st.ch := by simp [voted1, hc]
      rw [e3] at hch ⊢
      obtain ⟨c, h1, h3, i, j, hi, hj, hn, a, b⟩ := h.chos hch
      exact ⟨c, h1, h3, i, j, hi, hj, hn, .inl a, .inl b⟩

/-- Two choices are one. -/
theorem Inv.one (h : Inv st vo val) {c c' v v' : Int} (hc : val c = some v) (hc' : val c' = some v') (q : ∃ i j, i < 3 ∧ j < 3 ∧ i ≠ j ∧ vo i c ∧ vo j c) (q' : ∃ i j, i < 3 ∧ j < 3 ∧ i ≠ j ∧ vo i c' ∧ vo j c') : v = v' := by
  have a := h.safe c v hc
  have b := h.safe c' v' hc'
  rcases Int.lt_trichotomy c c' with e | e | e
  · rcases b.2 c a.1 e with x | x
    · rw [hc] at x; cases x; rfl
    · exact (not_blk q x).elim
  · subst e; rw [hc] at hc'; cases hc'; rfl
  · rcases a.2 c' b.1 e with x | x
    · rw [hc'] at x; cases x; rfl
    · exact (not_blk q' x).elim

/-- WHAT IS CHOSEN IS WHAT WAS CHOSEN. -/
theorem Inv.agree (h : Inv st vo val) (who whom : Nat) (hw : who < 3) (hk : whom < 3) (p : Int) (hp : (st.ld who).pend = some p) (hle : st.pr whom ≤ (st.ld who).bal) (hc : 2 ≤ cnt (orB (st.ld who).sd whom)) (hch : st.ch ≠ 0) : st.ch = p := by
  have h' := h.of_voted who whom hw hk p hp hle
  obtain ⟨h2, hval, hsd, hbits⟩ := h.pend1 who hw p hp
  obtain ⟨c, h1, h3, i, j, hi, hj, hn, a, b⟩ := h.chos hch
  obtain ⟨i', j', hi', hj', hn', bi, bj⟩ := two_bits _ (orB_lt _ _ hsd hk) hc
  refine h'.one h3 hval ⟨i, j, hi, hj, hn, .inl a, .inl b⟩ ⟨i', j', hi', hj', hn', ?_, ?_⟩
  · rw [bit_orB _ hsd _ hk _ hi'] at bi
    by_cases ek : i' = whom
    · exact .inr ⟨ek, rfl⟩
    · simp [ek] at bi
      exact .inl (hbits i' hi' bi)
  · rw [bit_orB _ hsd _ hk _ hj'] at bj
    by_cases ek : j' = whom
    · exact .inr ⟨ek, rfl⟩
    · simp [ek] at bj
      exact .inl (hbits j' hj' bj)

theorem refused_ph (st : Cn) (who k : Nat) (h : (st.ld who).ph ≠ 2) : ((refused st who k).ld who).ph ≠ 2 := by
  unfold refused
  split
  · exact h
  · simp [put_same]
theorem refused_ch (st : Cn) (who k : Nat) : (refused st who k).ch = st.ch := by
  unfold refused
  split <;> rfl
theorem ask_ch (st : Cn) (who whom : Nat) : (ask st who whom).ch = st.ch := by
  unfold ask
  dsimp only
  split
  · rw [refused_ch]; rfl
  · split
    · rw [refused_ch]; rfl
    · rfl

/-- WHO LEADS BEHIND A CHOICE IS BOUND TO IT. -/
theorem Inv.bound (h : Inv st vo val) (who whom : Nat) (hw : who < 3) (hk : whom < 3) (hch : st.ch ≠ 0) (h2 : ((ask st who whom).ld who).ph = 2) : ∃ ub, ((ask st who whom).ld who).bd = some (ub, st.ch) := by
  have h' := h.of_ask who whom hw hk
  have hb := behind_ne whom hk
  obtain ⟨c, h1, h3, i, j, hi, hj, hn, a, b⟩ := h.chos hch
  have hl := h'.lead2 who hw h2
  have hlt : c < ((ask st who whom).ld who).bal := by
    have pi := (h.vo1 i hi c a).2.1
    have pj := (h.vo1 j hj c b).2.1
    have qi := (h.vbz i hi).2
    have qj := (h.vbz j hj).2
    have e0 : (start st who).ld who = started (newB st who) := by simp [start, put_same]
    have hbal : ((ask st who whom).ld who).bal = newB st who ∧ st.pr whom < newB st who ∧ st.pr (behind whom) < newB st who := by
      unfold ask at h2 ⊢
      dsimp only at h2 ⊢
      split at h2
      · exact absurd h2 (refused_ph _ _ _ (by rw [e0]; simp [started]))
      · rename_i g0
        split at h2
        · refine absurd h2 (refused_ph _ _ _ ?_)
          simp only [rnd, put_same, e0, promised, started]
          rw [(phB_orB whom hk).1]
          decide
        · rename_i g1
          rw [if_neg g0, if_neg g1]
          rw [e0] at g0
          simp only [rnd, put_same, put_other _ _ _ hb.1, e0] at g1
          simp only [start, started, promised] at g0 g1
          refine ⟨?_, by omega, by omega⟩
          simp only [rnd, put_same, e0]
          rfl
    have hq : i = whom ∨ i = behind whom ∨ j = whom ∨ j = behind whom := by omega
    rw [hbal.1]
    rcases hq with e | e | e | e <;> subst e <;> omega
  cases hbd : ((ask st who whom).ld who).bd with
  | none =>
    rw [hbd] at hl
    exact (not_blk ⟨i, j, hi, hj, hn, a, b⟩ (hl.2 c h1 hlt)).elim
  | some x =>
    rw [hbd] at hl
    rcases (show Safe _ vo val _ x.2 from hl.2) c h1 hlt with y | y
    · rw [h3] at y
      refine ⟨x.1, ?_⟩
      rw [Option.some.inj y]
    · exact (not_blk ⟨i, j, hi, hj, hn, a, b⟩ y).elim

/-! ### how far ballots go -/
/-- No ballot is above N; what a leader asked from on is 1 at least. -/
def Upto (st : Cn) (N : Int) : Prop := (∀ k, k < 3 → st.pr k ≤ N ∧ (st.ld k).bal ≤ N)

theorem Upto.mono {N N' : Int} (h : Upto st N) (hN : N ≤ N') : Upto st N' := fun k hk => ⟨Int.le_trans (h k hk).1 hN, Int.le_trans (h k hk).2 hN⟩
theorem Upto.of_start {N : Int} (h : Upto st N) (who : Nat) (hw : who < 3) : Upto (start st who) (N + 3) := by
  intro k hk
  have hn := nextB_facts who (max (st.pr who) (st.ld who).bal) (by omega) (by omega)
  have a := h k hk
  have b := h who hw
  simp only [start]
  refine ⟨by omega, ?_⟩
  by_cases e : k = who
  · subst e; simp only [put_same, started, newB]; omega
  · simp only [put_other _ _ _ e]; omega
theorem Upto.of_rnd {N : Int} (h : Upto st N) (who k : Nat) (hw : who < 3) : Upto (rnd st who k) N := by
  intro j hj
  simp only [rnd]
  refine ⟨?_, ?_⟩
  · by_cases e : j = k
    · subst e; rw [put_same]; exact (h who hw).2
    · rw [put_other _ _ _ e]; exact (h j hj).1
  · by_cases e : j = who
    · subst e; simp only [put_same, promised]; exact (h j hj).2
    · simp only [put_other _ _ _ e]; exact (h j hj).2
theorem Upto.of_refused {N : Int} (h : Upto st N) (who k : Nat) : Upto (refused st who k) N := by
  unfold refused
  split
  · exact h
  · intro j hj
    refine ⟨(h j hj).1, ?_⟩
    by_cases e : j = who
    · subst e; simp only [put_same]; exact (h j hj).2
    · simp only [put_other _ _ _ e]; exact (h j hj).2
theorem Upto.of_ask {N : Int} (h : Upto st N) (who whom : Nat) (hw : who < 3) : Upto (ask st who whom) (N + 3) := by
  have h0 := h.of_start who hw
  unfold ask
  dsimp only
  split
  · exact h0.of_refused _ _
  · split
    · exact (h0.of_rnd who whom hw).of_refused _ _
    · exact (h0.of_rnd who whom hw).of_rnd who _ hw
theorem Upto.of_tell {N : Int} (h : Upto st N) (who whom : Nat) (hw : who < 3) (p : Int) : Upto (tell st who whom p) N := by
  unfold tell
  split
  · exact h
  · intro j hj
    simp only [voted1]
    refine ⟨?_, ?_⟩
    · by_cases e : j = whom
      · subst e; rw [put_same]; exact (h who hw).2
      · rw [put_other _ _ _ e]; exact (h j hj).1
    · by_cases e : j = who
      · subst e; simp only [put_same]; split <;> exact (h j hj).2
      · simp only [put_other _ _ _ e]; exact (h j hj).2
theorem Upto.of_proposed {N : Int} (h : Upto st N) (who : Nat) (v : Int) : Upto { st with ld := put st.ld who (proposed (st.ld who) v) } N := by
  intro j hj
  refine ⟨(h j hj).1, ?_⟩
  by_cases e : j = who
  · subst e; simp only [put_same, proposed]; exact (h j hj).2
  · simp only [put_other _ _ _ e]; exact (h j hj).2

/-- The council at its beginning. -/
def cn0 : Cn := { ld := fun _ => { bal := 0, frm := 0, ph := 0, pm := 0, bd := none, pend := none, sd := 0 }, pr := fun _ => 0, vb := fun _ => 0, vv := fun _ => 0, ch := 0 }
theorem inv0 : Inv cn0 (fun _ _ => False) (fun _ => none) := by
  refine { vo1 := fun _ _ _ h => h.elim, vbz := fun _ _ => ⟨Int.le_refl _, Int.le_refl _⟩, vbv := fun _ _ h => (h rfl).elim, safe := fun _ _ h => absurd h (by simp), own := fun _ _ _ _ _ => rfl, bal := fun _ _ => ⟨Int.le_refl _, fun h => (h rfl).elim⟩, lead2 := fun _ _ h => by simp [cn0] at h, pend1 := fun _ _ _ h => by simp [cn0] at h, fresh := fun _ _ _ _ _ => rfl, chos := fun h => (h rfl).elim }
theorem upto0 : Upto cn0 0 := fun _ _ => ⟨Int.le_refl _, Int.le_refl _⟩

end Go.Proofs.YtlmkiekdkonofaaDoor
