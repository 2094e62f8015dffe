/-
  REQUESTS: whole structs out of and into blocks; a request; own, get.
-/
import Derived.Test.YtlmkiekdkonofaaDoorSb
import Derived.Test.YtlmkiekdkonofaaDoorLe
namespace Go.Proofs.YtlmkiekdkonofaaDoor
open Go.RowKit Go.Conc

/-- A block's cells from o on, overwritten. -/
def over (C : Array Value) : Nat → List Value → Array Value
  | _, [] => C
  | o, v :: r => over (C.setIfInBounds o v) (o + 1) r
theorem over_size : ∀ (vs : List Value) (C : Array Value) (o : Nat), (over C o vs).size = C.size
  | [], _, _ => rfl
  | v :: r, C, o => by rw [over, over_size r]; simp
theorem over_get : ∀ (vs : List Value) (C : Array Value) (o k : Nat), o + vs.length ≤ C.size → (over C o vs)[k]? = if o ≤ k ∧ k < o + vs.length then vs[k - o]? else C[k]?
  | [], C, o, k, _ => by simp only [over, List.length_nil]; rw [if_neg (by omega)]
  | v :: r, C, o, k, h => by
    simp only [List.length_cons] at h ⊢
    rw [over, over_get r _ _ _ (by simp; omega), Array.getElem?_setIfInBounds]
    by_cases hk : k = o
    · subst hk
      rw [if_neg (by omega), if_pos rfl, if_pos (by omega), if_pos (by omega)]
      simp
    · by_cases hc : o + 1 ≤ k ∧ k < o + 1 + r.length
      · rw [if_pos hc, if_pos (by omega), show k - o = (k - (o + 1)) + 1 by omega]; simp
      · rw [if_neg hc, if_neg (by omega), if_neg (by omega)]
theorem over_all (C : Array Value) (vs : Array Value) (h : C.size = vs.size) : over C 0 vs.toList = vs := by
  apply Array.ext_getElem?
  intro k
  rw [over_get _ _ _ _ (by simp [h])]
  by_cases hk : k < vs.size
  · rw [if_pos (by simpa using hk)]; simp
  · rw [if_neg (by simpa using hk), Array.getElem?_eq_none (by omega), Array.getElem?_eq_none (by omega)]

theorem hp_setCells (b : Nat) : ∀ (vs : List Value) (o : Nat) (w : World) (k : Nat), k ≠ b → (w.setCells b o vs).heap[k]? = w.heap[k]?
  | [], _, _, _, _ => rfl
  | v :: r, o, w, k, h => by rw [World.setCells, hp_setCells b r _ _ k h, hp_set, if_neg h]
theorem hp_setCells_same (b : Nat) : ∀ (vs : List Value) (o : Nat) (w : World) (C : Array Value) (t : TypeId) (f : Nat × Nat), w.heap[b]? = some (.cells C t f) → (w.setCells b o vs).heap[b]? = some (.cells (over C o vs) t f)
  | [], _, _, _, _, _, h => h
  | v :: r, o, w, C, t, f, h => by
    rw [World.setCells, over]
    exact hp_setCells_same b r _ _ _ _ _ (by rw [hp_set, if_pos rfl, h]; rfl)
theorem Only.setCells {bs : List Nat} {a : World} {b : Nat} (hb : b ∈ bs ∨ a.heap.size ≤ b) : ∀ (vs : List Value) (o : Nat) {w : World}, Only bs a w → Only bs a (w.setCells b o vs)
  | [], _, _, h => h
  | v :: r, o, _, h => by rw [World.setCells]; exact Only.setCells hb r (o + 1) (h.setCell b o v hb)

variable {P : Program}
theorem load_blk (w : World) (b o : Nat) (ty t : TypeId) (C rq : Array Value) (d : TypeDesc) (h : w.heap[b]? = some (.cells C t (0, 0))) (hr : ∀ j, j < rq.size → C[o + j]? = rq[j]?)
    (hu : P.underlying ty = some d) (hd : d.isRow = true) (hi : (P.info? ty).map (·.size) = some rq.size) :
    (Instr.loadAt ty (.pointer (some ⟨b, o, none⟩))).run P w = .ok (.agg rq) w := by
  have := run_loadAt_mid (P := P) w b o ty rq.toList d (fun j v hv => by
    have hj : j < rq.size := by simpa using (List.getElem?_eq_some_iff.1 hv).1
    rw [cell_blk h, hr j hj]; simpa using hv) hu hd (by simpa using hi)
  simpa using this
theorem store_blk (w : World) (b o : Nat) (ty t : TypeId) (C rq : Array Value) (h : w.heap[b]? = some (.cells C t (0, 0))) (hr : o + rq.size ≤ C.size)
    (hi : (P.info? ty).map (·.size) = some rq.size) (h1 : rq.all (·.oneCell') = true) :
    (Instr.storeAt ty (.pointer (some ⟨b, o, none⟩)) (.agg rq)).run P w = .ok () (w.setCells b o rq.toList) :=
  run_storeAt_mid w b o ty rq (fun j hj => ⟨by rw [cell_blk h, Array.getElem?_eq_getElem (by omega)]; rfl, free_blk h _⟩) hi h1

/-- A whole value out of memory, by what its load is known to yield. -/
theorem wpList_ld {ty t : TypeId} {x : Operand} {dst : Option Tmp} {pos : String} {aft : Array Edge} {ops : Array Oper} {rest : List Oper} {Q : Exit → Act → World → Prop} {a : Act} {w : World} {p v : Value}
    (hx : a.eval x = p) (hl : (Instr.loadAt ty p).run P w = .ok v w) (h : ∀ K : Act → World → Prop, (∀ a w, wpList P ops Q rest a w → K a w) → K (a.put dst v) w) :
    wpList P ops Q ({ dst := dst, op := .load ty x, type := t, pos := pos, after := aft, guard := none } :: rest) a w :=
  wpList_plain rfl fun K hK => by
    unfold Oper.wp execOp
    simp only [hx, Sem.run_bind, hl, Result.andThen_ok]
    exact h K hK
/-- .. and into memory. -/
theorem wpList_st {ty t : TypeId} {x y : Operand} {dst : Option Tmp} {pos : String} {aft : Array Edge} {ops : Array Oper} {rest : List Oper} {Q : Exit → Act → World → Prop} {a : Act} {w w' : World} {p v : Value}
    (hx : a.eval x = p) (hy : a.eval y = v) (hl : (Instr.storeAt ty p v).run P w = .ok () w') (h : ∀ K : Act → World → Prop, (∀ a w, wpList P ops Q rest a w → K a w) → K (a.put dst undef) w') :
    wpList P ops Q ({ dst := dst, op := .store ty x y, type := t, pos := pos, after := aft, guard := none } :: rest) a w :=
  wpList_plain rfl fun K hK => by
    unfold Oper.wp execOp
    simp only [hx, hy, Sem.run_bind, hl, Result.andThen_ok]
    exact h K hK

/-- One result, in a cell. -/
theorem res_cell {fn : Func} {t : Tmp} {ty : TypeId} {tmps : Array Value} {x : Addr} {v : Value} {w : World} (h : fn.results = #[.cell t ty]) (hp : tmps.getD t undef = .pointer (some x)) (hl : (Instr.loadAt ty (.pointer (some x))).run P w = .ok v w) :
    (results fn tmps).run P w = .ok v w := by
  have hp' : tmps[t]?.getD undef = .pointer (some x) := by simpa using hp
  simp only [Instr.loadAt, Instr.sureAddr, Sem.run_bind, Sem.run_pure, Result.andThen_ok] at hl
  simp [results, h, hp', asAddr, hl]

/-- The walk stands here. -/
def Halted (p : Prop) : Prop := p
theorem halt_st (ty : TypeId) {t : TypeId} {x y : Operand} {dst : Option Tmp} {pos : String} {aft : Array Edge} {ops : Array Oper} {rest : List Oper} {Q : Exit → Act → World → Prop} {a : Act} {w : World}
    (h : Halted (wpList P ops Q ({ dst := dst, op := .store ty x y, type := t, pos := pos, after := aft, guard := none } :: rest) a w)) :
    wpList P ops Q ({ dst := dst, op := .store ty x y, type := t, pos := pos, after := aft, guard := none } :: rest) a w := h

/-- A request: its client, its number, its first kind; nothing in its Env. -/
structure Rq (rq : Array Value) (cl num : Int) : Prop where
  size : rq.size = 37
  client : rq[0]? = some (.int .i64 cl)
  number : rq[1]? = some (.int .i64 num)
  kind : rq[2]? = some (.int .i64 1)
  version : rq[3]? = some (.int .i64 0)
  env : rq[36]? = some (.slice none 0 0)
  one : rq.all (·.oneCell') = true

theorem info58 : (Tryd.prog.info? 58).map (·.size) = some 37 := by kernel_rfl

theorem Rq.env' {rq : Array Value} {cl num : Int} (h : Rq rq cl num) (hp : 36 < rq.size) : rq[36] = .slice none 0 0 := by
  have := h.env
  rw [Array.getElem?_eq_getElem hp] at this
  exact Option.some.inj this
theorem Rq.set36 {rq : Array Value} {cl num : Int} (h : Rq rq cl num) : rq.setIfInBounds 36 (.slice none 0 0) = rq := by
  apply Array.ext_getElem?
  intro k
  rw [Array.getElem?_setIfInBounds]
  by_cases hk : 36 = k
  · subst hk; rw [if_pos rfl, if_pos (by rw [h.size]; decide), h.env]
  · rw [if_neg hk]

set_option maxHeartbeats 400000 in
set_option maxRecDepth 100000 in
theorem own_any (rq : Array Value) (cl num : Int) (w : World) (h : Rq rq cl num) : Calls Tryd.prog 41 #[.agg rq] w fun e w' => e = .returned (.agg rq) ∧ Only [] w w' := by
  have hsz := h.size
  have h36 := h.env'
  go_enter Tryd.func41, Tryd.ntmps41
  go_wp2_with fail
  obtain ⟨z, hz⟩ : ∃ z : Array Value, z = #[Value.int IntKind.i64 0, Value.int IntKind.i64 0, Value.int IntKind.i64 0, Value.int IntKind.i64 0, Value.int IntKind.u8 0, Value.int IntKind.u8 0, Value.int IntKind.u8 0, Value.int IntKind.u8 0, Value.int IntKind.u8 0, Value.int IntKind.u8 0, Value.int IntKind.u8 0, Value.int IntKind.u8 0, Value.int IntKind.u8 0, Value.int IntKind.u8 0, Value.int IntKind.u8 0, Value.int IntKind.u8 0, Value.int IntKind.u8 0, Value.int IntKind.u8 0, Value.int IntKind.u8 0, Value.int IntKind.u8 0, Value.int IntKind.u8 0, Value.int IntKind.u8 0, Value.int IntKind.u8 0, Value.int IntKind.u8 0, Value.int IntKind.u8 0, Value.int IntKind.u8 0, Value.int IntKind.u8 0, Value.int IntKind.u8 0, Value.int IntKind.u8 0, Value.int IntKind.u8 0, Value.int IntKind.u8 0, Value.int IntKind.u8 0, Value.int IntKind.u8 0, Value.int IntKind.u8 0, Value.int IntKind.u8 0, Value.int IntKind.u8 0, Value.slice none 0 0] := ⟨_, rfl⟩
  rw [← hz]
  have hzs : z.size = 37 := by rw [hz]; rfl
  clear hz
  obtain ⟨W, hW⟩ : ∃ W, W = (w.alloc (Obj.cells rq 58)).alloc (Obj.cells z 58) := ⟨_, rfl⟩
  rw [← hW]
  have hb1 : W.heap[w.heap.size]? = some (.cells rq 58 (0, 0)) := by rw [hW]; exact (new_two w _ _).1
  have hb2 : W.heap[w.heap.size + 1]? = some (.cells z 58 (0, 0)) := by rw [hW]; exact (new_two w _ _).2
  have ho : Only [] w W := by rw [hW]; exact ((Only.refl [] w).alloc _).alloc _
  clear hW
  refine (clone_bytes _).mono ?_
  rintro e w1 ⟨rfl, rfl⟩
  obtain ⟨V, hV⟩ : ∃ V, V = W.setCell ⟨w.heap.size, 36, none⟩ (.slice none 0 0) := ⟨_, rfl⟩
  have hc1 : V.heap[w.heap.size]? = some (.cells rq 58 (0, 0)) := by rw [hV, hp_set, if_pos rfl, hb1, Option.map_some, setc_cells, h.set36]
  have hc2 : V.heap[w.heap.size + 1]? = some (.cells z 58 (0, 0)) := by rw [hV, hp_set, if_neg (by omega), hb2]
  have ho2 : Only [] w V := by rw [hV]; exact ho.setCell _ _ _ (.inr (Nat.le_refl _))
  have hcell : W.cell? ⟨w.heap.size, 36, none⟩ = some (.slice none 0 0) := by rw [cell_blk hb1, h.env]
  have hfree := free_blk hb1 36
  have hld := load_blk (P := Tryd.prog) V w.heap.size 0 58 58 rq rq _ hc1 (fun j _ => by rw [Nat.zero_add]) Tryd.underlying58 rfl (by rw [info58, hsz])
  have hst := store_blk (P := Tryd.prog) V (w.heap.size + 1) 0 58 58 z rq hc2 (by omega) (by rw [info58, hsz]) h.one
  have hd2 := hp_setCells_same (w.heap.size + 1) rq.toList 0 V z 58 (0, 0) hc2
  rw [over_all z rq (by omega)] at hd2
  have hld2 := load_blk (P := Tryd.prog) (V.setCells (w.heap.size + 1) 0 rq.toList) (w.heap.size + 1) 0 58 58 rq rq _ hd2 (fun j _ => by rw [Nat.zero_add]) Tryd.underlying58 rfl (by rw [info58, hsz])
  subst hV
  go_wp2_with (first
    | ((with_reducible refine wpList_ld (ty := 58) ?_ hld (fun K hK => ?_)); rfl; go_simp; refine hK _ _ ?_; clear hK K)
    | ((with_reducible refine wpList_st (ty := 58) ?_ ?_ hst (fun K hK => ?_)); rfl; rfl; go_simp; refine hK _ _ ?_; clear hK K))
  exact bodyPost_ret (v := .agg rq) (res_cell rfl rfl hld2) rfl ⟨rfl, ho2.setCells (.inr (by omega)) _ _⟩

set_option maxHeartbeats 400000 in
set_option maxRecDepth 100000 in
theorem get_any (c : Int) (w : World) : Calls Tryd.prog 33 #[.int .u8 c] w fun e w' => (∃ rq, e = .returned (.agg rq) ∧ Rq rq 0 0) ∧ Only [] w w' := by
  go_enter Tryd.func33, Tryd.ntmps33
  go_wp2_with (with_reducible refine halt_st 58 ?_)
  obtain ⟨z, hz⟩ : ∃ z : Array Value, z = #[Value.int IntKind.i64 0, Value.int IntKind.i64 0, Value.int IntKind.i64 0, Value.int IntKind.i64 0, Value.int IntKind.u8 0, Value.int IntKind.u8 0, Value.int IntKind.u8 0, Value.int IntKind.u8 0, Value.int IntKind.u8 0, Value.int IntKind.u8 0, Value.int IntKind.u8 0, Value.int IntKind.u8 0, Value.int IntKind.u8 0, Value.int IntKind.u8 0, Value.int IntKind.u8 0, Value.int IntKind.u8 0, Value.int IntKind.u8 0, Value.int IntKind.u8 0, Value.int IntKind.u8 0, Value.int IntKind.u8 0, Value.int IntKind.u8 0, Value.int IntKind.u8 0, Value.int IntKind.u8 0, Value.int IntKind.u8 0, Value.int IntKind.u8 0, Value.int IntKind.u8 0, Value.int IntKind.u8 0, Value.int IntKind.u8 0, Value.int IntKind.u8 0, Value.int IntKind.u8 0, Value.int IntKind.u8 0, Value.int IntKind.u8 0, Value.int IntKind.u8 0, Value.int IntKind.u8 0, Value.int IntKind.u8 0, Value.int IntKind.u8 0, Value.slice none 0 0] := ⟨_, rfl⟩
  rw [← hz]
  have hzs : z.size = 37 := by rw [hz]; rfl
  obtain ⟨rq, hrq⟩ : ∃ rq : Array Value, rq = #[Value.int IntKind.i64 0, Value.int IntKind.i64 0, Value.int IntKind.i64 1, Value.int IntKind.i64 0, Value.int IntKind.u8 c, Value.int IntKind.u8 0, Value.int IntKind.u8 0, Value.int IntKind.u8 0, Value.int IntKind.u8 0, Value.int IntKind.u8 0, Value.int IntKind.u8 0, Value.int IntKind.u8 0, Value.int IntKind.u8 0, Value.int IntKind.u8 0, Value.int IntKind.u8 0, Value.int IntKind.u8 0, Value.int IntKind.u8 0, Value.int IntKind.u8 0, Value.int IntKind.u8 0, Value.int IntKind.u8 0, Value.int IntKind.u8 0, Value.int IntKind.u8 0, Value.int IntKind.u8 0, Value.int IntKind.u8 0, Value.int IntKind.u8 0, Value.int IntKind.u8 0, Value.int IntKind.u8 0, Value.int IntKind.u8 0, Value.int IntKind.u8 0, Value.int IntKind.u8 0, Value.int IntKind.u8 0, Value.int IntKind.u8 0, Value.int IntKind.u8 0, Value.int IntKind.u8 0, Value.int IntKind.u8 0, Value.int IntKind.u8 0, Value.slice none 0 0] := ⟨_, rfl⟩
  rw [← hrq]
  have hR : Rq rq 0 0 := by
    subst hrq
    exact ⟨rfl, rfl, rfl, rfl, rfl, rfl, by kernel_rfl⟩
  clear hz hrq
  have hsz := hR.size
  have hb := heap_alloc_new w (.cells z 58)
  have hst := store_blk (P := Tryd.prog) _ w.heap.size 0 58 58 z rq hb (by omega) (by rw [info58, hsz]) hR.one
  have hd2 := hp_setCells_same w.heap.size rq.toList 0 _ z 58 (0, 0) hb
  rw [over_all z rq (by omega)] at hd2
  have hld2 := load_blk (P := Tryd.prog) _ w.heap.size 0 58 58 rq rq _ hd2 (fun j _ => by rw [Nat.zero_add]) Tryd.underlying58 rfl (by rw [info58, hsz])
  unfold Halted
  go_wp2_with ((with_reducible refine wpList_st (ty := 58) ?_ ?_ hst (fun K hK => ?_)); rfl; rfl; go_simp; refine hK _ _ ?_; clear hK K)
  exact bodyPost_ret (v := .agg rq) (res_cell rfl rfl hld2) rfl ⟨⟨rq, rfl, hR⟩, ((Only.refl [] w).alloc _).setCells (.inr (Nat.le_refl _)) _ _⟩

end Go.Proofs.YtlmkiekdkonofaaDoor
