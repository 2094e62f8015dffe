/-
  A SELECT OF ONE CASE WITH A DEFAULT, as the first operation of a plain region, taken into the ordinary walk ('Code.wp'): the case proceeds, or it does not.
-/
import Derived.Test.YtlmkiekdkonofaaDoorMem
import Derived.Test.YtlmkiekdkonofaaDoorLd
import Derived.Conc.LoneSelect
import Derived.Conc.LoneSelectN
import Derived.Deep.MidRow
import Derived.BigQuiet
namespace Go.Proofs.YtlmkiekdkonofaaDoor
open Go.RowKit Go.Conc

section
variable {P : Program}
theorem stepG_sel {b : Frame} {a : Act} {k : List Item} {cs : List Frame} {w w' : World} {ops : Array Oper} {i : Nat} {rest : List Nat} {o : Oper} {cases : Array CommCase} {blocking : Bool} {shape : CommShape}
    (ho : ops[i]? = some o) (hw : Region.wanted o (yielded ops a.tmps) = true) (hr : (execOp a.eval o).run P w = .ok (.comm cases blocking shape) w') :
    ∃ es, stepG P true (G (b.at a (.inRegion ops (i :: rest) :: k)) cs) w = .comm (G (b.at a (.inRegion ops (i :: rest) :: k)) cs) cases blocking shape w' es := by
  rw [stepG_oper ho hw]
  simp [stepG.apply, hr, G, Frame.at, GStep.after]

theorem wp_region_sel {id : Nat} {o : Oper} {l : List Oper} {Q : Exit → Act → World → Prop} {a : Act} {w w1 w2 : World} {cases : Array CommCase} {v : Value}
    (hg : o.guard = none) (hr : (execOp a.eval o).run P w = .ok (.comm cases false .select) w1)
    (hs : ∀ fr cs es, stepG P true (G fr cs) w = .comm (G fr cs) cases false .select w1 es → step P (solo (G fr cs) w) = .next (solo (G (fr.finish v) cs) w2))
    (h : ∀ K : Act → World → Prop, (∀ a w, wpList P (o :: l).toArray Q l a w → K a w) → K (a.put o.dst v) w2) : (Code.region id (o :: l).toArray false).wp P Q a w := by
  intro b k cs
  have h1 := h _ (fun _ _ h => h)
  rw [← wpOps_eq_wpList (ops := (o :: l).toArray) l 1 (fun j => by simp [Nat.add_comm 1 j])] at h1
  obtain ⟨e, a', w', q, r⟩ := wp_ops _ _ _ h1 b k cs
  refine ⟨e, a', w', q, .of_steps (.one step_region) (.of_steps (.one ?_) r)⟩
  have hl : List.range (o :: l).toArray.size = 0 :: List.range' 1 l.length := by simp [List.range_eq_range', List.range'_succ]
  rw [hl]
  obtain ⟨es, hes⟩ := stepG_sel (b := b) (k := k) (cs := cs) (ops := (o :: l).toArray) (rest := List.range' 1 l.length) (i := 0) (o := o) rfl (by simp [Region.wanted, hg]) hr
  have := hs _ _ _ hes
  rw [Frame.finish_at] at this
  exact this

/-- A channel of capacity one that holds these values. -/
def Ch (w : World) (c : Nat) (buf : Array Value) : Prop := ∃ s r, w.heap[c]? = some (.chan 1 buf false s r false)

theorem Ch.keep {w w' : World} {c : Nat} {buf : Array Value} {bs : List Nat} (h : Ch w c buf) (ho : Only bs w w') (hn : c ∉ bs) : Ch w' c buf := by
  obtain ⟨s, r, h⟩ := h
  exact ⟨s, r, (ho.block c (hp_lt h) hn).trans h⟩

theorem only_chan (w : World) (c cap : Nat) (buf : Array Value) (cl : Bool) (s r : Nat) (tm : Bool) : Only [c] w (w.setChan c cap buf cl s r tm) :=
  ⟨rfl, rfl, rfl, by simp [World.setChan], fun k _ hk => by simp only [World.setChan]; rw [Array.getElem?_setIfInBounds_ne (fun h => hk (by simp [h]))]⟩

theorem run_recv1 {ρ : Operand → Value} {x : Operand} {e : TypeId} {c : Nat} {z : Value} {w : World} {o : Oper} (ho : o.op = .select #[{ chan := x, send := none, elem := e }] false) (hx : ρ x = .chan (some c)) (hz : (zeroValue e).run P w = .ok z w) :
    (execOp ρ o).run P w = .ok (.comm #[rcase c z] false .select) w := by
  unfold execOp
  simp [ho, hx, hz, rcase]
theorem run_send1 {ρ : Operand → Value} {x y : Operand} {e : TypeId} {c : Nat} {z v : Value} {w : World} {o : Oper} (ho : o.op = .select #[{ chan := x, send := some y, elem := e }] false) (hx : ρ x = .chan (some c)) (hy : ρ y = v) (hz : (zeroValue e).run P w = .ok z w) :
    (execOp ρ o).run P w = .ok (.comm #[scase c v z] false .select) w := by
  unfold execOp
  simp [ho, hx, hy, hz, scase]

variable {id : Nat} {o : Oper} {l : List Oper} {Q : Exit → Act → World → Prop} {a : Act} {w : World} {x y : Operand} {e : TypeId} {c : Nat} {z v : Value}
/-- Nothing to receive. -/
theorem wp_recv0 (hg : o.guard = none) (ho : o.op = .select #[{ chan := x, send := none, elem := e }] false) (hx : a.eval x = .chan (some c)) (hz : ∀ w, (zeroValue e).run P w = .ok z w) (hc : Ch w c #[])
    (h : ∀ K : Act → World → Prop, (∀ a w, wpList P (o :: l).toArray Q l a w → K a w) → K (a.put o.dst (.tuple #[.int .i64 (-1), .bool false, z])) w) : (Code.region id (o :: l).toArray false).wp P Q a w := by
  obtain ⟨s, r, hc⟩ := hc
  exact wp_region_sel hg (run_recv1 ho hx (hz w)) (fun fr cs es hs => step_lone_select_default hs hc) h
/-- Something to receive. -/
theorem wp_recv1 (hg : o.guard = none) (ho : o.op = .select #[{ chan := x, send := none, elem := e }] false) (hx : a.eval x = .chan (some c)) (hz : ∀ w, (zeroValue e).run P w = .ok z w) (hc : Ch w c #[v])
    (h : ∀ w2, Ch w2 c #[] → Only [c] w w2 → w2.heap.size = w.heap.size → ∀ K : Act → World → Prop, (∀ a w, wpList P (o :: l).toArray Q l a w → K a w) → K (a.put o.dst (.tuple #[.int .i64 0, .bool true, v])) w2) : (Code.region id (o :: l).toArray false).wp P Q a w := by
  obtain ⟨s, r, hc⟩ := hc
  exact wp_region_sel hg (run_recv1 ho hx (hz w)) (fun fr cs es hs => step_lone_select_recv_buf hs hc (by simp)) (h _ ⟨s, r + 1, by rw [heap_setChan _ _ _ _ _ _ _ _ (hp_lt hc)]; rfl⟩ (only_chan _ _ _ _ _ _ _ _) (size_setChan _ _ _ _ _ _ _ _))
/-- Room to send. -/
theorem wp_send0 (hg : o.guard = none) (ho : o.op = .select #[{ chan := x, send := some y, elem := e }] false) (hx : a.eval x = .chan (some c)) (hy : a.eval y = v) (hz : ∀ w, (zeroValue e).run P w = .ok z w) (hc : Ch w c #[])
    (h : ∀ w2, Ch w2 c #[v] → Only [c] w w2 → w2.heap.size = w.heap.size → ∀ K : Act → World → Prop, (∀ a w, wpList P (o :: l).toArray Q l a w → K a w) → K (a.put o.dst (.tuple #[.int .i64 0, .bool false])) w2) : (Code.region id (o :: l).toArray false).wp P Q a w := by
  obtain ⟨s, r, hc⟩ := hc
  exact wp_region_sel hg (run_send1 ho hx hy (hz w)) (fun fr cs es hs => step_lone_select_send_room hs hc (by simp)) (h _ ⟨s + 1, r, by rw [heap_setChan _ _ _ _ _ _ _ _ (hp_lt hc)]; rfl⟩ (only_chan _ _ _ _ _ _ _ _) (size_setChan _ _ _ _ _ _ _ _))
/-- No room. -/
theorem wp_send1 {u : Value} (hg : o.guard = none) (ho : o.op = .select #[{ chan := x, send := some y, elem := e }] false) (hx : a.eval x = .chan (some c)) (hy : a.eval y = v) (hz : ∀ w, (zeroValue e).run P w = .ok z w) (hc : Ch w c #[u])
    (h : ∀ K : Act → World → Prop, (∀ a w, wpList P (o :: l).toArray Q l a w → K a w) → K (a.put o.dst (.tuple #[.int .i64 (-1), .bool false])) w) : (Code.region id (o :: l).toArray false).wp P Q a w := by
  obtain ⟨s, r, hc⟩ := hc
  exact wp_region_sel hg (run_send1 ho hx hy (hz w)) (fun fr cs es hs => step_lone_select_send_full hs hc (by simp)) h
end

def z58 : Value := .agg (#[.int .i64 0, .int .i64 0, .int .i64 0, .int .i64 0] ++ Array.replicate 32 (.int .u8 0) ++ #[.slice none 0 0])
theorem zero58 (w : World) : (zeroValue 58).run Tryd.prog w = .ok z58 w := by kernel_rfl

theorem eqlChan (w : World) (c : Nat) : (binOp .eql 92 (.chan (some c)) (.chan none)).run Tryd.prog w = .ok (.bool false) w := by
  have h : ∀ d : Nat, (Op.equalIn (d + 1) 92 (.chan (some c)) (.chan none)).run Tryd.prog w = .ok false w := fun d => by
    simp [Op.equalIn, run_underlying Tryd.underlying92]
  simp only [binOp]
  simp [Op.equal, Op.maxDepth, h 9999]

end Go.Proofs.YtlmkiekdkonofaaDoor
