/-
  THE COUNCIL IN MEMORY ('CM'), and how it is kept where a leader or a voter changes.
-/
import Derived.Test.YtlmkiekdkonofaaDoorKa
import Derived.Test.YtlmkiekdkonofaaDoorPc
namespace Go.Proofs.YtlmkiekdkonofaaDoor
open Go.RowKit

/-- A voter's five cells in the council's block. -/
def VAt (w : World) (C k : Nat) (pr vb vv : Int) : Prop :=
  w.cell? ⟨C, 3 + k * 5, none⟩ = some (.int .i64 pr) ∧ w.cell? ⟨C, 3 + k * 5 + 1, none⟩ = some (.int .i64 vb) ∧
  ∃ n f s, w.cell? ⟨C, 3 + k * 5 + 2, none⟩ = some (.int .i64 n) ∧ w.cell? ⟨C, 3 + k * 5 + 3, none⟩ = some (.int .i64 f) ∧ w.cell? ⟨C, 3 + k * 5 + 4, none⟩ = some s ∧ (∃ a nn c, s = .slice a nn c) ∧ (vb ≠ 0 → n = 1 ∧ f = 1 ∧ Ints w s [vv])

structure CM (w : World) (B C : Nat) (L : Nat → Nat) (mb : Nat → Option Nat) (st : Cn) : Prop where
  base : 1 < B ∧ B ≤ C ∧ (∀ k, k < 3 → B ≤ L k) ∧ ∀ k, k < 3 → ∀ M, mb k = some M → B ≤ M
  cblk : ∃ cs, w.heap[C]? = some (.cells cs 36 (0, 0))
  ptr : ∀ k, k < 3 → w.cell? ⟨C, k, none⟩ = some (.pointer (some ⟨L k, 0, none⟩))
  vot : ∀ k, k < 3 → VAt w C k (st.pr k) (st.vb k) (st.vv k)
  chs : w.cell? ⟨C, 18, none⟩ = some (.int .i64 st.ch)
  lds : ∀ k, k < 3 → LdAt w (L k) k (mb k) (st.ld k)
  inj : ∀ i j, i < 3 → j < 3 → i ≠ j → L i ≠ L j
  minj : ∀ i j, i < 3 → j < 3 → i ≠ j → ∀ M, mb i = some M → mb j ≠ some M
  act : ∀ k, k < 3 → (st.ld k).ph ≠ 0 → ∃ M, mb k = some M
  tab : Tab w

variable {w w' : World} {B C : Nat} {L : Nat → Nat} {mb : Nat → Option Nat} {st : Cn}

theorem CM.lt (h : CM w B C L mb st) : C < w.heap.size := by
  obtain ⟨cs, hc⟩ := h.cblk
  exact hp_lt hc
theorem CM.free (h : CM w B C L mb st) (i : Nat) : w.frozen? ⟨C, i, none⟩ = false := by
  obtain ⟨cs, hc⟩ := h.cblk
  exact free_blk hc i

theorem VAt.keep {k : Nat} {pr vb vv : Int} {bs : List Nat} (h : VAt w C k pr vb vv) (ho : Only bs w w') (hC : C ∉ bs) (hb : ∀ b ∈ bs, Mut w b) : VAt w' C k pr vb vv := by
  obtain ⟨h0, h1, n, f, s, h2, h3, h4, h5, h6⟩ := h
  exact ⟨cell_keep ho h0 hC, cell_keep ho h1 hC, n, f, s, cell_keep ho h2 hC, cell_keep ho h3 hC, cell_keep ho h4 hC, h5, fun hv => ⟨(h6 hv).1, (h6 hv).2.1, (h6 hv).2.2.mut ho hb⟩⟩

/-- The blocks of a leader. -/
theorem CM.muts (h : CM w B C L mb st) (who : Nat) (hw : who < 3) {bs : List Nat} (hb : ∀ b ∈ bs, b = L who ∨ mb who = some b) : ∀ b ∈ bs, Mut w b := by
  intro b hm
  rcases hb b hm with e | e
  · exact e ▸ (h.lds who hw).mut
  · obtain ⟨pd, _, _, h3⟩ := h.lds who hw
    exact .inr (h3 b e).mut

theorem Mut.ne36 {b : Nat} (h : Mut w b) {cs : Array Value} : w.heap[b]? ≠ some (.cells cs 36 (0, 0)) := by
  intro e
  rcases h with ⟨c, h⟩ | ⟨es, k, h⟩ <;> · rw [h] at e; cases e

/-- One leader has changed, and its map. -/
theorem CM.lead (h : CM w B C L mb st) (who : Nat) (hw : who < 3) {bs : List Nat} (ho : Only bs w w') (hb : ∀ b ∈ bs, b = L who ∨ mb who = some b) (m : Option Nat) (hm : m = mb who ∨ ∃ M, m = some M ∧ w.heap.size ≤ M) (l : Ld) (hl : LdAt w' (L who) who m l) (hact : l.ph ≠ 0 → ∃ M, m = some M) :
    CM w' B C L (put mb who m) { st with ld := put st.ld who l } := by
  have hmu := h.muts who hw hb
  have hC : C ∉ bs := fun hx => by
    obtain ⟨cs, hc⟩ := h.cblk
    exact (hmu C hx).ne36 hc
  have hsz : ∀ k, k < 3 → ∀ M, mb k = some M → M < w.heap.size := by
    intro k hk M e
    obtain ⟨pd, _, _, h3⟩ := h.lds k hk
    obtain ⟨es, km, hme⟩ := (h3 M e).mut
    exact hp_lt hme
  have hBC : B ≤ w.heap.size := Nat.le_trans h.base.2.1 (Nat.le_of_lt h.lt)
  refine { base := ⟨h.base.1, h.base.2.1, h.base.2.2.1, ?_⟩, cblk := ?_, ptr := fun k hk => cell_keep ho (h.ptr k hk) hC, vot := fun k hk => (h.vot k hk).keep ho hC hmu, chs := cell_keep ho h.chs hC, lds := ?_, inj := h.inj, minj := ?_, act := ?_, tab := h.tab.keep ho ?_ }
  · intro k hk M e
    by_cases ek : k = who
    · subst ek
      rw [put_same] at e
      rcases hm with hm | ⟨M', hm, hM'⟩
      · exact h.base.2.2.2 k hk M (hm ▸ e)
      · rw [hm] at e; cases e; omega
    · rw [put_other _ _ _ ek] at e
      exact h.base.2.2.2 k hk M e
  · obtain ⟨cs, hc⟩ := h.cblk
    exact ⟨cs, ho.get hc hC⟩
  · intro k hk
    by_cases ek : k = who
    · subst ek
      simp only [put_same]
      exact hl
    · simp only [put_other _ _ _ ek]
      refine (h.lds k hk).keep ho (fun hx => ?_) (fun M e hx => ?_) hmu
      · rcases hb _ hx with e | e
        · exact h.inj k who hk hw ek e
        · obtain ⟨pd, h1, _⟩ := h.lds k hk
          obtain ⟨pd', _, _, h3⟩ := h.lds who hw
          obtain ⟨es, km, hme⟩ := (h3 _ e).mut
          unfold LB at h1
          rw [h1] at hme
          cases hme
      · rcases hb _ hx with e' | e'
        · obtain ⟨pd, _, _, h3⟩ := h.lds k hk
          obtain ⟨es, km, hme⟩ := (h3 M e).mut
          obtain ⟨pd', h1, _⟩ := h.lds who hw
          unfold LB at h1
          rw [e', h1] at hme
          cases hme
        · exact h.minj k who hk hw ek M e e'
  · intro i j hi hj hne M e1 e2
    by_cases ei : i = who
    · subst ei
      rw [put_same] at e1
      rw [put_other _ _ _ (fun e => hne e.symm)] at e2
      rcases hm with hm | ⟨M', hm, hM'⟩
      · exact h.minj i j hi hj hne M (hm ▸ e1) e2
      · rw [hm] at e1
        cases e1
        have := hsz j hj M e2
        omega
    · rw [put_other _ _ _ ei] at e1
      by_cases ej : j = who
      · subst ej
        rw [put_same] at e2
        rcases hm with hm | ⟨M', hm, hM'⟩
        · exact h.minj i j hi hj hne M e1 (hm ▸ e2)
        · rw [hm] at e2
          cases e2
          have := hsz i hi M e1
          omega
      · rw [put_other _ _ _ ej] at e2
        exact h.minj i j hi hj hne M e1 e2
  · intro k hk hp
    by_cases ek : k = who
    · subst ek
      simp only [put_same] at hp ⊢
      exact hact hp
    · simp only [put_other _ _ _ ek] at hp ⊢
      exact h.act k hk hp
  · intro hx
    rcases hb 1 hx with e | e
    · have := h.base.2.2.1 who hw; have := h.base.1; omega
    · have := h.base.2.2.2 who hw 1 e; have := h.base.1; omega

/-- New blocks alone. -/
theorem CM.keep0 (h : CM w B C L mb st) (ho : Only [] w w') : CM w' B C L mb st := by
  refine { base := h.base, cblk := ?_, ptr := fun k hk => cell_keep ho (h.ptr k hk) (by simp), vot := fun k hk => (h.vot k hk).keep ho (by simp) (by simp), chs := cell_keep ho h.chs (by simp), lds := fun k hk => (h.lds k hk).keep0 ho, inj := h.inj, minj := h.minj, act := h.act, tab := h.tab.keep ho (by simp) }
  obtain ⟨cs, hc⟩ := h.cblk
  exact ⟨cs, ho.get0 hc⟩

/-- The council's own block is no leader's, no map, no ints. -/
theorem LdAt.keepC {L id : Nat} {mb : Option Nat} {l : Ld} {cs : Array Value} (h : LdAt w L id mb l) (hc : w.heap[C]? = some (.cells cs 36 (0, 0))) (ho : Only [C] w w') : LdAt w' L id mb l := by
  have hni : ∀ b ∈ [C], ∀ cur f, w.heap[b]? ≠ some (.cells cur 3 f) := by simp [hc]
  obtain ⟨pd, h1, h2, h3⟩ := h
  refine ⟨pd, ho.get h1 (fun hx => ?_), ?_, fun M e => ?_⟩
  · simp at hx
    subst hx
    unfold LB at h1
    rw [h1] at hc
    cases hc
  · cases hp : l.pend with
    | none => rw [hp] at h2; exact h2
    | some p =>
      rw [hp] at h2
      obtain ⟨Pb, cs', a, b, c⟩ := h2
      refine ⟨Pb, cs', a, ho.get b (fun hx => ?_), c.keep ho hni⟩
      simp at hx
      subst hx
      rw [b] at hc
      cases hc
  · have h4 := h3 M e
    have hMC : M ∉ [C] := by
      obtain ⟨es, k, hme⟩ := h4.mut
      intro hx
      simp at hx
      subst hx
      rw [hme] at hc
      cases hc
    cases hb : l.bd with
    | none => rw [hb] at h4; obtain ⟨k, h5⟩ := h4; exact ⟨k, ho.get h5 hMC⟩
    | some x => rw [hb] at h4; obtain ⟨s, b, k, h5, h6⟩ := h4; exact ⟨s, b, k, ho.get h5 hMC, h6.keep ho hni⟩

/-- One cell of a block has been written: what lies there now. -/
theorem cellSet (w : World) (C i : Nat) (u x : Value) (hi : w.cell? ⟨C, i, none⟩ = some u) (j : Nat) : (w.setCell ⟨C, i, none⟩ x).cell? ⟨C, j, none⟩ = if j = i then some x else w.cell? ⟨C, j, none⟩ := by
  by_cases e : j = i
  · subst e
    rw [if_pos rfl]
    exact World.cell?_setCell_same _ _ _ hi
  · rw [if_neg e]
    exact World.cell?_setCell_other _ _ _ _ (by intro e'; cases e'; exact e rfl)

/-- One voter has changed. -/
theorem CM.voter (h : CM w B C L mb st) (k : Nat) (hk : k < 3) (ho : Only [C] w w') (hc : ∃ cs, w'.heap[C]? = some (.cells cs 36 (0, 0))) (hcell : ∀ j, (j < 3 + k * 5 ∨ 3 + k * 5 + 5 ≤ j) → w'.cell? ⟨C, j, none⟩ = w.cell? ⟨C, j, none⟩)
    (pr vb vv : Int) (hv : VAt w' C k pr vb vv) : CM w' B C L mb { st with pr := put st.pr k pr, vb := put st.vb k vb, vv := put st.vv k vv } := by
  obtain ⟨cs, hcs⟩ := h.cblk
  have hni : ∀ b ∈ [C], ∀ cur f, w.heap[b]? ≠ some (.cells cur 3 f) := by simp [hcs]
  refine { base := h.base, cblk := hc, ptr := fun j hj => (hcell j (by omega)).trans (h.ptr j hj), vot := ?_, chs := (hcell 18 (by omega)).trans h.chs, lds := fun j hj => (h.lds j hj).keepC hcs ho, inj := h.inj, minj := h.minj, act := h.act, tab := h.tab.keep ho ?_ }
  · intro j hj
    by_cases e : j = k
    · subst e
      simp only [put_same]
      exact hv
    · simp only [put_other _ _ _ e]
      obtain ⟨h0, h1, n, f, s, h2, h3, h4, h5, h6⟩ := h.vot j hj
      exact ⟨(hcell _ (by omega)).trans h0, (hcell _ (by omega)).trans h1, n, f, s, (hcell _ (by omega)).trans h2, (hcell _ (by omega)).trans h3, (hcell _ (by omega)).trans h4, h5, fun hv => ⟨(h6 hv).1, (h6 hv).2.1, (h6 hv).2.2.keep ho hni⟩⟩
  · have := h.base.1
    have := h.base.2.1
    simp
    omega

/-- A voter has promised. -/
theorem CM.promise (h : CM w B C L mb st) (k : Nat) (hk : k < 3) (b : Int) : CM (w.setCell ⟨C, 3 + k * 5, none⟩ (.int .i64 b)) B C L mb { st with pr := put st.pr k b } := by
  obtain ⟨cs, hcs⟩ := h.cblk
  obtain ⟨h0, h1, n, f, s, h2, h3, h4, h5, h6⟩ := h.vot k hk
  have ho : Only [C] w (w.setCell ⟨C, 3 + k * 5, none⟩ (.int .i64 b)) := (Only.refl _ _).setCell _ _ _ (by simp)
  have hcell : ∀ j, j ≠ 3 + k * 5 → (w.setCell ⟨C, 3 + k * 5, none⟩ (.int .i64 b)).cell? ⟨C, j, none⟩ = w.cell? ⟨C, j, none⟩ := fun j hj => by rw [cellSet w C _ _ _ h0, if_neg hj]
  have hs : st.vb = put st.vb k (st.vb k) := by
    funext j
    by_cases e : j = k
    · subst e; rw [put_same]
    · rw [put_other _ _ _ e]
  have hs' : st.vv = put st.vv k (st.vv k) := by
    funext j
    by_cases e : j = k
    · subst e; rw [put_same]
    · rw [put_other _ _ _ e]
  have := h.voter k hk ho ⟨_, by rw [hp_set, if_pos rfl, hcs]; rfl⟩ (fun j hj => hcell j (by omega)) b (st.vb k) (st.vv k)
    ⟨by rw [cellSet w C _ _ _ h0, if_pos rfl], (hcell _ (by omega)).trans h1, n, f, s, (hcell _ (by omega)).trans h2, (hcell _ (by omega)).trans h3, (hcell _ (by omega)).trans h4, h5, fun hv => ⟨(h6 hv).1, (h6 hv).2.1, (h6 hv).2.2.keep ho (by simp [hcs])⟩⟩
  rw [← hs, ← hs'] at this
  exact this

/-- Five cells in a row have been written. -/
theorem set5 (cs : Array Value) (a : Nat) (x0 x1 x2 x3 x4 : Value) (h : a + 4 < cs.size) (j : Nat) :
    (((((cs.setIfInBounds a x0).setIfInBounds (a + 1) x1).setIfInBounds (a + 2) x2).setIfInBounds (a + 3) x3).setIfInBounds (a + 4) x4)[j]? =
      if j = a + 4 then some x4 else if j = a + 3 then some x3 else if j = a + 2 then some x2 else if j = a + 1 then some x1 else if j = a then some x0 else cs[j]? := by
  simp only [Array.getElem?_setIfInBounds, Array.size_setIfInBounds]
  by_cases e4 : j = a + 4
  · subst e4; simp [h]
  rw [if_neg (fun e => e4 e.symm), if_neg e4]
  by_cases e3 : j = a + 3
  · subst e3; rw [if_pos rfl, if_pos (by omega), if_pos rfl]
  rw [if_neg (fun e => e3 e.symm), if_neg e3]
  by_cases e2 : j = a + 2
  · subst e2; rw [if_pos rfl, if_pos (by omega), if_pos rfl]
  rw [if_neg (fun e => e2 e.symm), if_neg e2]
  by_cases e1 : j = a + 1
  · subst e1; rw [if_pos rfl, if_pos (by omega), if_pos rfl]
  rw [if_neg (fun e => e1 e.symm), if_neg e1]
  by_cases e0 : j = a
  · subst e0; rw [if_pos rfl, if_pos (by omega), if_pos rfl]
  rw [if_neg (fun e => e0 e.symm), if_neg e0]

/-- A voter has voted. -/
theorem CM.vote (h : CM w B C L mb st) (k : Nat) (hk : k < 3) (b p : Int) (g cap : Nat) (hs : Ints w (.slice (some ⟨g, 0, none⟩) 1 cap) [p]) :
    CM (((((w.setCell ⟨C, 3 + k * 5, none⟩ (.int .i64 b)).setCell ⟨C, 3 + k * 5 + 1, none⟩ (.int .i64 b)).setCell ⟨C, 3 + k * 5 + 2, none⟩ (.int .i64 1)).setCell ⟨C, 3 + k * 5 + 3, none⟩ (.int .i64 1)).setCell ⟨C, 3 + k * 5 + 4, none⟩ (.slice (some ⟨g, 0, none⟩) 1 cap)).drew B C L mb
      { st with pr := put st.pr k b, vb := put st.vb k b, vv := put st.vv k p } ∧
    Only [C] w (((((w.setCell ⟨C, 3 + k * 5, none⟩ (.int .i64 b)).setCell ⟨C, 3 + k * 5 + 1, none⟩ (.int .i64 b)).setCell ⟨C, 3 + k * 5 + 2, none⟩ (.int .i64 1)).setCell ⟨C, 3 + k * 5 + 3, none⟩ (.int .i64 1)).setCell ⟨C, 3 + k * 5 + 4, none⟩ (.slice (some ⟨g, 0, none⟩) 1 cap)).drew := by
  obtain ⟨cs, hcs⟩ := h.cblk
  obtain ⟨q0, q1, n, f, s, q2, q3, q4, q5, q6⟩ := h.vot k hk
  have hsz : 3 + k * 5 + 4 < cs.size := by
    rw [cell_blk hcs] at q4
    exact (Array.getElem?_eq_some_iff.1 q4).1
  have ho : Only [C] w (((((w.setCell ⟨C, 3 + k * 5, none⟩ (.int .i64 b)).setCell ⟨C, 3 + k * 5 + 1, none⟩ (.int .i64 b)).setCell ⟨C, 3 + k * 5 + 2, none⟩ (.int .i64 1)).setCell ⟨C, 3 + k * 5 + 3, none⟩ (.int .i64 1)).setCell ⟨C, 3 + k * 5 + 4, none⟩ (.slice (some ⟨g, 0, none⟩) 1 cap)).drew := by
    repeat' (first | with_reducible assumption | with_reducible refine Only.alloc ?_ _ | with_reducible refine Only.drew ?_ | with_reducible refine Only.drewN ?_ _ | with_reducible refine Only.setCell ?_ _ _ _ (by simp) | with_reducible exact Only.refl _ _)
  have hb : (((((w.setCell ⟨C, 3 + k * 5, none⟩ (.int .i64 b)).setCell ⟨C, 3 + k * 5 + 1, none⟩ (.int .i64 b)).setCell ⟨C, 3 + k * 5 + 2, none⟩ (.int .i64 1)).setCell ⟨C, 3 + k * 5 + 3, none⟩ (.int .i64 1)).setCell ⟨C, 3 + k * 5 + 4, none⟩ (.slice (some ⟨g, 0, none⟩) 1 cap)).drew.heap[C]? =
      some (.cells (((((cs.setIfInBounds (3 + k * 5) (.int .i64 b)).setIfInBounds (3 + k * 5 + 1) (.int .i64 b)).setIfInBounds (3 + k * 5 + 2) (.int .i64 1)).setIfInBounds (3 + k * 5 + 3) (.int .i64 1)).setIfInBounds (3 + k * 5 + 4) (.slice (some ⟨g, 0, none⟩) 1 cap)) 36 (0, 0)) := by
    simp only [hp_drew, hp_set, if_true, hcs, Option.map_some, setc]
  have hc := fun j => (cell_blk hb j).trans (set5 cs (3 + k * 5) _ _ _ _ _ hsz j)
  refine ⟨h.voter k hk ho ⟨_, hb⟩ (fun j hj => ?_) b b p ?_, ho⟩
  · rw [hc j, if_neg (by omega), if_neg (by omega), if_neg (by omega), if_neg (by omega), if_neg (by omega), cell_blk hcs]
  · refine ⟨?_, ?_, 1, 1, .slice (some ⟨g, 0, none⟩) 1 cap, ?_, ?_, ?_, ⟨_, _, _, rfl⟩, fun _ => ⟨rfl, rfl, hs.keep ho (by simp [hcs])⟩⟩
    · rw [hc, if_neg (by omega), if_neg (by omega), if_neg (by omega), if_neg (by omega), if_pos rfl]
    · rw [hc, if_neg (by omega), if_neg (by omega), if_neg (by omega), if_pos rfl]
    · rw [hc, if_neg (by omega), if_neg (by omega), if_pos rfl]
    · rw [hc, if_neg (by omega), if_pos rfl]
    · rw [hc, if_pos rfl]

/-- Something has been chosen. -/
theorem CM.choose (h : CM w B C L mb st) (p : Int) : CM (w.setCell ⟨C, 18, none⟩ (.int .i64 p)) B C L mb { st with ch := p } ∧ Only [C] w (w.setCell ⟨C, 18, none⟩ (.int .i64 p)) := by
  obtain ⟨cs, hcs⟩ := h.cblk
  have ho : Only [C] w (w.setCell ⟨C, 18, none⟩ (.int .i64 p)) := (Only.refl _ _).setCell _ _ _ (by simp)
  have hni : ∀ b ∈ [C], ∀ cur f, w.heap[b]? ≠ some (.cells cur 3 f) := by simp [hcs]
  have hcell := cellSet w C 18 _ (.int .i64 p) h.chs
  refine ⟨{ base := h.base, cblk := ⟨_, by rw [hp_set, if_pos rfl, hcs]; rfl⟩, ptr := fun j hj => by rw [hcell, if_neg (by omega)]; exact h.ptr j hj, vot := fun j hj => ?_, chs := by rw [hcell, if_pos rfl], lds := fun j hj => (h.lds j hj).keepC hcs ho, inj := h.inj, minj := h.minj, act := h.act, tab := h.tab.keep ho ?_ }, ho⟩
  · obtain ⟨h0, h1, n, f, s, h2, h3, h4, h5, h6⟩ := h.vot j hj
    exact ⟨by rw [hcell, if_neg (by omega)]; exact h0, by rw [hcell, if_neg (by omega)]; exact h1, n, f, s, by rw [hcell, if_neg (by omega)]; exact h2, by rw [hcell, if_neg (by omega)]; exact h3, by rw [hcell, if_neg (by omega)]; exact h4, h5, fun hv => ⟨(h6 hv).1, (h6 hv).2.1, (h6 hv).2.2.keep ho hni⟩⟩
  · have := h.base.1
    have := h.base.2.1
    simp
    omega

end Go.Proofs.YtlmkiekdkonofaaDoor
