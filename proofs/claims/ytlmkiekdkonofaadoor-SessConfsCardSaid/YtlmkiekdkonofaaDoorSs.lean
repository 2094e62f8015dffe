/-
  One packet more in a row of packets: a list of one is made, and appended.
-/
import Derived.Test.YtlmkiekdkonofaaDoorSp
namespace Go.Proofs.YtlmkiekdkonofaaDoor
open Go.RowKit Go.Conc

theorem wp_push {x s : Operand} {d1 : Tmp} {d2 : Option Tmp} {t1 t2 : TypeId} {p1 p2 : String} {f1 f2 : Array Edge} {ops : Array Oper} {rest : List Oper} {Q : Exit → Act → World → Prop} {a : Act} {w : World} {pk : Array Value} {B n : Nat} {v : Value} {xs : List Value}
    (hp : pk.size = 87) (h1 : pk.all (·.oneCell') = true) (hown : w.ownsRow B 61 87 v n xs) (hn : n ≤ 10) (hB : B ≤ w.heap.size)
    (hx : a.eval x = .agg pk) (hs : ∀ u, (a.put (some d1) u).eval s = v) (ht : ∀ u, (a.put (some d1) u).eval (.tmp d1) = u)
    (h : ∀ g cap w' u, w'.ownsRow B 61 87 (.slice (some ⟨g, 0, none⟩) (n + 1) cap) (n + 1) (xs ++ pk.toList) → (∀ V : World, V.heap.size ≤ B → Only [] V w → Only [] V w') → B ≤ w'.heap.size →
      ∀ K : Act → World → Prop, (∀ a w, wpList Tryd.prog ops Q rest a w → K a w) → K ((a.put (some d1) (.slice (some ⟨u, 0, none⟩) 1 1)).put d2 (.slice (some ⟨g, 0, none⟩) (n + 1) cap)) w') :
    wpList Tryd.prog ops Q ({ dst := some d1, op := .buildSlice 65 1 #[(0, x)], type := t1, pos := p1, after := f1, guard := none } ::
      { dst := d2, op := .call { callee := .builtin .append, args := #[s, .tmp d1], argTypes := #[65, 65] }, type := t2, pos := p2, after := f2, guard := none } :: rest) a w := by
  obtain ⟨i0, hi0, hz0, hz1, hz2⟩ := info_parts info61p
  refine wpList_bs hx hp (fun K hK => hK _ _ ?_)
  refine wpList_append_lies _ rfl _ _ 65 rfl B 61 i0 (.agg Tryd.zeroCells61) 87 328 Tryd.underlying65 hi0 hz0 hz1 hz2 z61_size (by decide) v n xs (hs _) (hown.alloc _) ⟨w.heap.size, 0, none⟩ 1 1 pk.toList (ht _) ?qc1 ?qc2 ?qc3 ?qc4 ?qc5 ?qc6 ?qc7 (w.heap.size + 1) ?qc8 ?qc9
  case qc1 => simpa using hp
  case qc2 => exact World.news_of_block (heap_alloc_new w (.cells pk 61))
  case qc3 => exact fun v hv => Array.all_eq_true_iff_forall_mem.1 h1 v (by simpa using hv)
  case qc4 => decide
  case qc5 => unfold maxLen; omega
  case qc6 => omega
  case qc7 => simp; omega
  case qc8 => simp
  case qc9 =>
    intro g cap w' hown' hgrow _ _
    have hlt := hown.lt
    refine h g cap w' _ hown' (fun V hV hO => (hO.alloc _).grown hgrow (fun k hk => .inr (Nat.le_trans hV (hlt k hk).1))) ?_ _ (fun _ _ h => h)
    have := hgrow.size
    simp at this
    omega
end Go.Proofs.YtlmkiekdkonofaaDoor
