/-
  A LEADER IN MEMORY AS THE PLAIN LAW HAS IT ('LdAt'), and what its methods do to that.
-/
import Derived.Test.YtlmkiekdkonofaaDoorPa
import Derived.Test.YtlmkiekdkonofaaDoorLf
namespace Go.Proofs.YtlmkiekdkonofaaDoor
open Go.RowKit

/-- The map of what binds: nothing, or one vote for the config 1. -/
def MapAt (w : World) (M : Nat) : Option (Int × Int) → Prop
  | none => MB0 w M
  | some (ub, u) => MB1 w M 1 ub u
/-- What is pending: nothing, or a config 1 in a block of its own. -/
def PendAt (w : World) (pd : Option Addr) : Option Int → Prop
  | none => pd = none
  | some p => ∃ Pb cs, pd = some ⟨Pb, 0, none⟩ ∧ w.heap[Pb]? = some (.cells cs 29 (0, 0)) ∧ Conf1 w (.agg cs) 1 p
/-- The block L is the leader l of the master id; its map is mb. -/
def LdAt (w : World) (L : Nat) (id : Nat) (mb : Option Nat) (l : Ld) : Prop :=
  ∃ pd, LB w L id l.bal l.frm l.ph l.pm mb pd l.sd ∧ PendAt w pd l.pend ∧ ∀ M, mb = some M → MapAt w M l.bd

/-- A block of a leader, or a map. -/
def Mut (w : World) (b : Nat) : Prop := (∃ cs, w.heap[b]? = some (.cells cs 83 (0, 0))) ∨ ∃ es k, w.heap[b]? = some (.map es k)

theorem LdAt.mut {w : World} {L id : Nat} {mb : Option Nat} {l : Ld} (h : LdAt w L id mb l) : Mut w L := by
  obtain ⟨pd, hl, _⟩ := h
  exact .inl ⟨_, hl⟩
theorem MapAt.mut {w : World} {M : Nat} {bd : Option (Int × Int)} (h : MapAt w M bd) : ∃ es k, w.heap[M]? = some (.map es k) := by
  cases bd with
  | none => obtain ⟨k, h⟩ := h; exact ⟨_, _, h⟩
  | some x => obtain ⟨s, b, k, h, _⟩ := h; exact ⟨_, _, h⟩

theorem Ints.mut {w w' : World} {s : Value} {zs : List Int} {bs : List Nat} (h : Ints w s zs) (ho : Only bs w w') (hb : ∀ b ∈ bs, Mut w b) : Ints w' s zs := by
  refine h.keep ho (fun b hm cur f e => ?_)
  rcases hb b hm with ⟨cs, h1⟩ | ⟨es, k, h1⟩ <;> · rw [h1] at e; cases e
theorem Conf1.mut {w w' : World} {c : Value} {n v : Int} {bs : List Nat} (h : Conf1 w c n v) (ho : Only bs w w') (hb : ∀ b ∈ bs, Mut w b) : Conf1 w' c n v := by
  obtain ⟨s, hc, hs⟩ := h
  exact ⟨s, hc, hs.mut ho hb⟩

theorem MapAt.keep {w w' : World} {M : Nat} {bd : Option (Int × Int)} {bs : List Nat} (h : MapAt w M bd) (ho : Only bs w w') (hM : M ∉ bs) (hb : ∀ b ∈ bs, Mut w b) : MapAt w' M bd := by
  cases bd with
  | none => obtain ⟨k, h⟩ := h; exact ⟨k, ho.get h hM⟩
  | some x => obtain ⟨s, b, k, h, hs⟩ := h; exact ⟨s, b, k, ho.get h hM, hs.mut ho hb⟩
theorem PendAt.keep {w w' : World} {pd : Option Addr} {o : Option Int} {bs : List Nat} (h : PendAt w pd o) (ho : Only bs w w') (hb : ∀ b ∈ bs, Mut w b) : PendAt w' pd o := by
  cases o with
  | none => exact h
  | some p =>
    obtain ⟨Pb, cs, h1, h2, h3⟩ := h
    refine ⟨Pb, cs, h1, ho.get h2 (fun hm => ?_), h3.mut ho hb⟩
    rcases hb Pb hm with ⟨cs, h4⟩ | ⟨es, k, h4⟩ <;> · rw [h4] at h2; cases h2
theorem LdAt.keep {w w' : World} {L id : Nat} {mb : Option Nat} {l : Ld} {bs : List Nat} (h : LdAt w L id mb l) (ho : Only bs w w') (hL : L ∉ bs) (hM : ∀ M, mb = some M → M ∉ bs) (hb : ∀ b ∈ bs, Mut w b) : LdAt w' L id mb l := by
  obtain ⟨pd, h1, h2, h3⟩ := h
  exact ⟨pd, ho.get h1 hL, h2.keep ho hb, fun M e => (h3 M e).keep ho (hM M e) hb⟩
theorem LdAt.keep0 {w w' : World} {L id : Nat} {mb : Option Nat} {l : Ld} (h : LdAt w L id mb l) (ho : Only [] w w') : LdAt w' L id mb l := h.keep ho (by simp) (by simp) (by simp)

/-- Its made, ballot and phase cells. -/
theorem LdAt.cells {w : World} {L id : Nat} {mb : Option Nat} {l : Ld} (h : LdAt w L id mb l) : w.cell? ⟨L, 8, none⟩ = some (.bool true) ∧ w.cell? ⟨L, 1, none⟩ = some (.int .i64 l.bal) ∧ w.cell? ⟨L, 3, none⟩ = some (.int .i64 l.ph) := by
  obtain ⟨pd, h1, _⟩ := h
  have f := h1.facts
  exact ⟨f.2.2.2.2.2.2.2.2.2.2, f.2.2.2.1, f.2.2.2.2.2.1⟩

/-- Start. -/
theorem startC (L id : Nat) (mb : Option Nat) (l : Ld) (a : Int) (w : World) (h : LdAt w L id mb l) (ha0 : 0 ≤ a) (ha1 : a ≤ 1000) (hid : id < 3) (hb0 : 0 ≤ l.bal) (hb1 : l.bal ≤ 1000) :
    Calls Tryd.prog 19 #[.pointer (some ⟨L, 0, none⟩), .int .i64 a, .int .i64 1] w fun e w' => e = .returned (.tuple #[.int .i64 (nextB id (max a l.bal)), .int .i64 0]) ∧ LdAt w' L id (some w.heap.size) (started (nextB id (max a l.bal))) ∧ Only [L] w w' := by
  obtain ⟨pd, h1, _⟩ := h
  refine (start_any L a 1 id l.bal l.frm l.ph l.pm mb pd l.sd w h1 ha0 (by omega) (by omega) (by omega) (by omega) (by omega) hb0 (by omega)).mono ?_
  rintro e w' ⟨he, hl, hm, ho⟩
  exact ⟨he, ⟨none, hl, rfl, fun M e => by cases e; exact ⟨_, hm⟩⟩, ho⟩

/-- No: a ballot that is no greater; a greater one. -/
theorem noC0 (L id : Nat) (mb : Option Nat) (l : Ld) (b : Int) (w : World) (h : LdAt w L id mb l) (hb : b ≤ l.bal) :
    Calls Tryd.prog 26 #[.pointer (some ⟨L, 0, none⟩), .int .i64 b] w fun e w' => e = .returned (.int .i64 170) ∧ w = w' := by
  obtain ⟨pd, h1, _⟩ := h
  exact no_not L id l.bal l.frm l.ph b l.pm l.sd mb pd w h1 hb
theorem noC1 (L id : Nat) (mb : Option Nat) (l : Ld) (b : Int) (w : World) (h : LdAt w L id mb l) (hb : l.bal < b) (hp : l.ph ≠ 0) :
    Calls Tryd.prog 26 #[.pointer (some ⟨L, 0, none⟩), .int .i64 b] w fun e w' => e = .returned (.int .i64 0) ∧ LdAt w' L id mb { l with ph := 0, pend := none } ∧ Only [L] w w' := by
  obtain ⟨pd, h1, h2, h3⟩ := h
  refine (no_yes L id l.bal l.frm l.ph b l.pm l.sd mb pd w h1 hb (by simpa using hp)).mono ?_
  rintro e w' ⟨he, hl, ho⟩
  refine ⟨he, ⟨none, hl, rfl, fun M e => (h3 M e).keep ho ?_ ?_⟩, ho⟩
  · obtain ⟨es, k, hm⟩ := (h3 M e).mut
    intro hx
    simp at hx
    subst hx
    unfold LB at h1
    rw [h1] at hm
    cases hm
  · intro b hb
    simp at hb
    subst hb
    exact .inl ⟨_, h1⟩

/-- What a voter tells: nothing, or its vote for the config 1. -/
def VotesAt (w : World) (vs : Value) (vb v : Int) : Prop :=
  (vb = 0 ∧ vs = .slice none 0 0) ∨ (0 < vb ∧ ∃ V cp s, vs = .slice (some ⟨V, 0, none⟩) 1 cp ∧ VoteAt w V vb 1 s ∧ Ints w s [v])

/-- Promise. -/
theorem promiseL (L id M k : Nat) (l : Ld) (vs : Value) (vb v : Int) (w : World) (h : LdAt w L id (some M) l) (hph : l.ph = 1) (hpn : l.pend = none) (hfr : l.frm = 1) (hT : Tab w) (hL1 : L ≠ 1) (hM1 : M ≠ 1) (hk : k < 3) (hpm : l.pm < 8) (hv : VotesAt w vs vb v) (hlt : vb < l.bal) :
    Calls Tryd.prog 20 #[.pointer (some ⟨L, 0, none⟩), .int .i64 k, .int .i64 l.bal, vs] w fun e w' => e = .returned (.tuple #[.bool (decide (2 ≤ cnt (orB l.pm k))), .int .i64 0]) ∧ LdAt w' L id (some M) (promised l k vb v) ∧ Only [L, M] w w' := by
  obtain ⟨pd, h1, h2, h3⟩ := h
  rw [hpn] at h2
  obtain rfl : pd = none := h2
  rw [hph] at h1
  have hm := h3 M rfl
  obtain ⟨es, km, hmm⟩ := hm.mut
  have hLM : L ≠ M := by
    intro e
    subst e
    unfold LB at h1
    rw [h1] at hmm
    cases hmm
  have hmu : ∀ b ∈ [L, M], Mut w b := by
    intro b hb
    simp at hb
    rcases hb with rfl | rfl
    · exact .inl ⟨_, h1⟩
    · exact .inr ⟨_, _, hmm⟩
  rcases hv with ⟨rfl, rfl⟩ | ⟨hv0, V, cp, s, rfl, hV, hs⟩
  · refine (promise_nil L k id l.bal l.frm l.pm l.sd (some M) none w h1 hT hL1 hk hpm).mono ?_
    rintro e w' ⟨he, hl, ho⟩
    refine ⟨he, ⟨none, hl, ?_, fun M' e => ?_⟩, ho.mono (by simp)⟩
    · show PendAt w' none l.pend
      rw [hpn]
      rfl
    · cases e
      show MapAt w' M (bind1 l.bd 0 v)
      simp only [bind1, if_true]
      refine hm.keep ho (by simpa using hLM.symm) (fun b hb => hmu b ?_)
      simp at hb
      simp [hb]
  · have hne : vb ≠ 0 := by omega
    cases hbd : l.bd with
    | none =>
      rw [hbd] at hm
      refine (promiseA L M V k cp id l.bal l.frm 1 vb v s l.pm l.sd none w h1 hT hL1 hM1 hLM hk hpm hV hs (by omega) hlt hv0 hm).mono ?_
      rintro e w' ⟨he, hl, hm', ho⟩
      refine ⟨he, ⟨none, hl, ?_, fun M' e => ?_⟩, ho⟩
      · show PendAt w' none l.pend
        rw [hpn]
        rfl
      · cases e
        show MapAt w' M (bind1 l.bd vb v)
        rw [hbd]
        simp only [bind1, if_neg hne]
        exact hm'
    | some x =>
      obtain ⟨ub, u⟩ := x
      rw [hbd] at hm
      by_cases hub : ub < vb
      · refine (promiseB L M V k cp id l.bal l.frm 1 vb v ub u s l.pm l.sd none w h1 hT hL1 hM1 hLM hk hpm hV hs (by omega) hlt hm hub).mono ?_
        rintro e w' ⟨he, hl, hm', ho⟩
        refine ⟨he, ⟨none, hl, ?_, fun M' e => ?_⟩, ho⟩
        · show PendAt w' none l.pend
          rw [hpn]
          rfl
        · cases e
          show MapAt w' M (bind1 l.bd vb v)
          rw [hbd]
          simp only [bind1, if_neg hne, if_pos hub]
          exact hm'
      · refine (promiseC L M V k cp id l.bal l.frm 1 vb v ub u s l.pm l.sd none w h1 hT hL1 hM1 hLM hk hpm hV hs (by omega) hlt hm (by omega)).mono ?_
        rintro e w' ⟨he, hl, hm', ho⟩
        refine ⟨he, ⟨none, hl, ?_, fun M' e => ?_⟩, ho⟩
        · show PendAt w' none l.pend
          rw [hpn]
          rfl
        · cases e
          show MapAt w' M (bind1 l.bd vb v)
          rw [hbd]
          simp only [bind1, if_neg hne, if_neg hub]
          exact hm'

/-- Bound, of the number 1. -/
theorem boundC0 (L id M : Nat) (l : Ld) (w : World) (h : LdAt w L id (some M) l) (hb : l.bd = none) : Calls Tryd.prog 9 #[.pointer (some ⟨L, 0, none⟩), .int .i64 1] w (Bound0 w) := by
  obtain ⟨pd, h1, h2, h3⟩ := h
  have f := h1.facts
  have hm := h3 M rfl
  rw [hb] at hm
  exact bound0 L M 1 w f.2.2.2.2.2.2.2.1 f.2.2.2.2.2.2.2.2.2.2 hm
theorem boundC1 (L id M : Nat) (l : Ld) (ub u : Int) (w : World) (h : LdAt w L id (some M) l) (hb : l.bd = some (ub, u)) : Calls Tryd.prog 9 #[.pointer (some ⟨L, 0, none⟩), .int .i64 1] w (Bound1 1 u w) := by
  obtain ⟨pd, h1, h2, h3⟩ := h
  have f := h1.facts
  have hm := h3 M rfl
  rw [hb] at hm
  exact bound1 L M 1 ub u w f.2.2.2.2.2.2.2.1 f.2.2.2.2.2.2.2.2.2.2 hm

/-- Pending. -/
theorem pendingC0 (L id : Nat) (mb : Option Nat) (l : Ld) (w : World) (h : LdAt w L id mb l) (hp : l.pend = none) : Calls Tryd.prog 29 #[.pointer (some ⟨L, 0, none⟩)] w (Bound0 w) := by
  obtain ⟨pd, h1, h2, h3⟩ := h
  have f := h1.facts
  rw [hp] at h2
  obtain rfl : pd = none := h2
  exact pending0 L w f.2.2.2.2.2.2.2.2.1 f.2.2.2.2.2.2.2.2.2.2
theorem pendingC1 (L id : Nat) (mb : Option Nat) (l : Ld) (p : Int) (w : World) (h : LdAt w L id mb l) (hp : l.pend = some p) : Calls Tryd.prog 29 #[.pointer (some ⟨L, 0, none⟩)] w (Bound1 1 p w) := by
  obtain ⟨pd, h1, h2, h3⟩ := h
  have f := h1.facts
  rw [hp] at h2
  obtain ⟨Pb, cs, rfl, hb, hc⟩ := h2
  exact pending1 L Pb 1 p cs w f.2.2.2.2.2.2.2.2.1 f.2.2.2.2.2.2.2.2.2.2 hb hc

/-- Propose: not now; not of that number; yes. -/
theorem proposeC0 (L id : Nat) (mb : Option Nat) (l : Ld) (c : Value) (v : Int) (w : World) (h : LdAt w L id mb l) (hc : Conf1 w c 1 v) (hp : l.ph ≠ 2) :
    Calls Tryd.prog 22 #[.pointer (some ⟨L, 0, none⟩), c] w fun e w' => e = .returned (.tuple #[zeroConf, .int .i64 170]) ∧ Only [] w w' := by
  have f := h.cells
  exact proposeE L 1 v l.ph c w f.2.2 f.1 (by simpa using hp) hc
theorem proposeC1 (L id : Nat) (mb : Option Nat) (l : Ld) (c : Value) (v : Int) (w : World) (h : LdAt w L id mb l) (hc : Conf1 w c 1 v) (hp : l.ph = 2) (hn : l.pend = none) (hf : 1 < l.frm) :
    Calls Tryd.prog 22 #[.pointer (some ⟨L, 0, none⟩), c] w fun e w' => e = .returned (.tuple #[zeroConf, .int .i64 2]) ∧ Only [] w w' := by
  obtain ⟨pd, h1, h2, h3⟩ := h
  have f := h1.facts
  rw [hn] at h2
  obtain rfl : pd = none := h2
  rw [hp] at f
  exact proposeA L 1 v l.frm c w f.2.2.2.2.1 f.2.2.2.2.2.1 f.2.2.2.2.2.2.2.2.1 f.2.2.2.2.2.2.2.2.2.2 hf hc
/-- What a proposal leaves. -/
def ProposedC (L id M : Nat) (l : Ld) (v : Int) (w : World) (e : Ending) (w' : World) : Prop :=
  ∃ c Pb cs, e = .returned (.tuple #[c, .int .i64 0]) ∧ Conf1 w' c 1 v ∧ LB w' L id l.bal l.frm l.ph l.pm (some M) (some ⟨Pb, 0, none⟩) 0 ∧ w'.heap[Pb]? = some (.cells cs 29 (0, 0)) ∧ Conf1 w' (.agg cs) 1 v ∧ w.heap.size ≤ Pb ∧ MapAt w' M l.bd ∧ Only [L] w w'
theorem proposeC2 (L id M : Nat) (l : Ld) (c : Value) (w : World) (h : LdAt w L id (some M) l) (hc : Conf1 w c 1 (10 + id)) (hm : may l) (hn : l.pend = none) :
    Calls Tryd.prog 22 #[.pointer (some ⟨L, 0, none⟩), c] w (ProposedC L id M l (toSay l id) w) := by
  obtain ⟨pd, h1, h2, h3⟩ := h
  rw [hn] at h2
  obtain rfl : pd = none := h2
  rw [hm.1] at h1
  have hmm := h3 M rfl
  obtain ⟨es, km, hme⟩ := hmm.mut
  have hML : M ∉ [L] := by
    intro e
    simp at e
    subst e
    unfold LB at h1
    rw [h1] at hme
    cases hme
  have hmu : ∀ b ∈ [L], Mut w b := by
    intro b hb
    simp at hb
    subst hb
    exact .inl ⟨_, h1⟩
  have fin : ∀ v e w', Proposed L id l.bal l.frm l.pm (some M) 1 v w e w' → ProposedC L id M l v w e w' := by
    rintro v e w' ⟨c, Pb, cs, he, hc', hl, hP, hcs, hle, ho⟩
    exact ⟨c, Pb, cs, he, hc', hm.1.symm ▸ hl, hP, hcs, hle, hmm.keep ho hML hmu, ho⟩
  cases hbd : l.bd with
  | none =>
    have e1 : toSay l id = 10 + id := by simp [toSay, hbd]
    rw [hbd] at hmm
    rw [e1]
    exact (propose0 L M 1 (10 + id) id l.bal l.frm l.pm l.sd c w h1 hmm hm.2 hc).mono (fun e w' hh => fin _ e w' hh)
  | some x =>
    obtain ⟨ub, u⟩ := x
    have e1 : toSay l id = u := by simp [toSay, hbd]
    rw [hbd] at hmm
    rw [e1]
    exact (propose1 L M 1 ub (10 + id) u id l.bal l.frm l.pm l.sd c w h1 hmm hm.2 hc).mono (fun e w' hh => fin _ e w' hh)

/-- Yes, to what is pending. -/
theorem yesC (L id k : Nat) (mb : Option Nat) (l : Ld) (p : Int) (w : World) (h : LdAt w L id mb l) (hp : l.pend = some p) (hph : l.ph = 2) (hk : k < 3) (hsd : l.sd < 8) :
    Calls Tryd.prog 24 #[.pointer (some ⟨L, 0, none⟩), .int .i64 k, .int .i64 l.bal, .int .i64 1] w fun e w' => e = .returned (.tuple #[.bool (decide (2 ≤ cnt (orB l.sd k))), .int .i64 0]) ∧
      LdAt w' L id mb (if 2 ≤ cnt (orB l.sd k) then { l with frm := 2, pend := none, sd := orB l.sd k } else { l with sd := orB l.sd k }) ∧ Only [L] w w' := by
  obtain ⟨pd, h1, h2, h3⟩ := h
  rw [hp] at h2
  obtain ⟨Pb, cs, rfl, hb, hc⟩ := h2
  rw [hph] at h1
  have hcell : w.cell? ⟨Pb, 0, none⟩ = some (.int .i64 1) := by
    obtain ⟨s, e, _⟩ := hc
    simp only [Value.agg.injEq] at e
    subst e
    exact cell_blk hb 0
  have hmu : ∀ b ∈ [L], Mut w b := by
    intro b hb
    simp at hb
    subst hb
    exact .inl ⟨_, h1⟩
  have hML : ∀ M, mb = some M → M ∉ [L] := by
    intro M e hx
    obtain ⟨es, km, hme⟩ := (h3 M e).mut
    simp at hx
    subst hx
    unfold LB at h1
    rw [h1] at hme
    cases hme
  by_cases hcn : 2 ≤ cnt (orB l.sd k)
  · refine (yes_many L Pb k id l.bal l.frm 1 l.pm l.sd mb w h1 hcell hk hsd hcn (by omega) (by omega)).mono ?_
    rintro e w' ⟨he, hl, ho⟩
    refine ⟨by simp [he, hcn], ?_, ho⟩
    rw [if_pos hcn]
    refine ⟨none, ?_, rfl, fun M e => (h3 M e).keep ho (hML M e) hmu⟩
    show LB w' L id l.bal 2 l.ph l.pm mb none (orB l.sd k)
    rw [hph]
    exact hl
  · refine (yes_few L Pb k id l.bal l.frm 1 l.pm l.sd mb w h1 hcell hk hsd (by omega)).mono ?_
    rintro e w' ⟨he, hl, ho⟩
    refine ⟨by simp [he, hcn], ?_, ho⟩
    rw [if_neg hcn]
    refine ⟨some ⟨Pb, 0, none⟩, ?_, ?_, fun M e => (h3 M e).keep ho (hML M e) hmu⟩
    · show LB w' L id l.bal l.frm l.ph l.pm mb _ (orB l.sd k)
      rw [hph]
      exact hl
    · show PendAt w' _ l.pend
      rw [hp]
      exact PendAt.keep (o := some p) ⟨Pb, cs, rfl, hb, hc⟩ ho hmu

end Go.Proofs.YtlmkiekdkonofaaDoor
