/-
  THE COUNCIL AGREES: saying as a whole; what asking and saying want to be told.
-/
import Derived.Test.YtlmkiekdkonofaaDoorPc
namespace Go.Proofs.YtlmkiekdkonofaaDoor

variable {st : Cn} {vo : Nat → Int → Prop} {val : Int → Option Int}

theorem Inv.of_tell (h : Inv st vo val) (who whom : Nat) (hw : who < 3) (hk : whom < 3) (p : Int) (hp : (st.ld who).pend = some p) : ∃ vo' val', Inv (tell st who whom p) vo' val' := by
  unfold tell
  split
  · exact ⟨vo, val, h⟩
  · rename_i hb
    exact ⟨_, _, h.of_voted who whom hw hk p hp (by omega)⟩

theorem Inv.of_say (h : Inv st vo val) (who whom : Nat) (hw : who < 3) (hk : whom < 3) : ∃ vo' val', Inv (say st who whom) vo' val' := by
  unfold say
  cases hp : (st.ld who).pend with
  | some p => exact h.of_tell who whom hw hk p hp
  | none =>
    by_cases hm : may (st.ld who)
    · simp only [if_pos hm]
      exact (h.of_proposed who hw hm hp).of_tell who whom hw hk _ (by simp only [put_same]; rfl)
    · simp only [if_neg hm]
      exact ⟨vo, val, h⟩

theorem Upto.of_say {N : Int} (h : Upto st N) (who whom : Nat) (hw : who < 3) : Upto (say st who whom) N := by
  unfold say
  cases hp : (st.ld who).pend with
  | some p => exact h.of_tell who whom hw p
  | none =>
    by_cases hm : may (st.ld who)
    · simp only [if_pos hm]
      exact (h.of_proposed who _).of_tell who whom hw _
    · simp only [if_neg hm]
      exact h

/-- What proposing wants to be told. -/
theorem Inv.tells (h : Inv st vo val) (who whom : Nat) (hw : who < 3) (hk : whom < 3) : ∀ p, (st.ld who).pend = some p → (st.ld who).ph = 2 ∧ (st.ld who).sd < 8 ∧ (st.pr whom ≤ (st.ld who).bal → 2 ≤ cnt (orB (st.ld who).sd whom) → st.ch ≠ 0 → st.ch = p) := by
  intro p hp
  obtain ⟨a, _, c, _⟩ := h.pend1 who hw p hp
  exact ⟨a, c, fun h1 h2 h3 => h.agree who whom hw hk p hp h1 h2 h3⟩

/-- What asking wants to be told. -/
theorem Inv.nums {N : Int} (h : Inv st vo val) (hu : Upto st N) : ∀ k, k < 3 → 0 ≤ st.vb k ∧ st.vb k ≤ st.pr k ∧ st.pr k ≤ N ∧ 0 ≤ (st.ld k).bal ∧ (st.ld k).bal ≤ N :=
  fun k hk => ⟨(h.vbz k hk).1, (h.vbz k hk).2, (hu k hk).1, (h.bal k hk).1, (hu k hk).2⟩

end Go.Proofs.YtlmkiekdkonofaaDoor
