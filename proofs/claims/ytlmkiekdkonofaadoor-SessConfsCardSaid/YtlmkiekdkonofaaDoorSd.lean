/-
  Check: a request of the first kind, of a client and a number within bounds, may be.
-/
import Derived.Test.YtlmkiekdkonofaaDoorSc
import Derived.Deep.RegionHeld3
import Derived.Test.YtlmkiekdkonofaaDoorLh
namespace Go.Proofs.YtlmkiekdkonofaaDoor
open Go.RowKit Go.Conc

set_option maxHeartbeats 400000 in
theorem bare_any (rq : Array Value) (cl num : Int) (w : World) (h : Rq rq cl num) : Calls Tryd.prog 62 #[.agg rq] w fun e w' => e = .returned (.bool true) ∧ Only [] w w' := by
  have hsz := h.size
  have h36 := h.env'
  have h3 : ∀ hp : 3 < rq.size, rq[3] = .int .i64 0 := fun hp => by
    have := h.version
    rw [Array.getElem?_eq_getElem hp] at this
    exact Option.some.inj this
  go_enter Tryd.func62, Tryd.ntmps62
  go_wp2_with fail
  go_ret
  exact ⟨rfl, (Only.refl [] w).alloc _⟩

def kindsV : Array Value := #[Value.nilFunc, Value.nilFunc, Value.func (Fn.func 62) #[] #[], Value.func (Fn.func 63) #[] #[], Value.func (Fn.func 65) #[] #[], Value.func (Fn.func 67) #[] #[], Value.func (Fn.func 62) #[] #[], Value.func (Fn.func 69) #[] #[], Value.func (Fn.func 71) #[] #[], Value.func (Fn.func 72) #[] #[]]
theorem info118 : (Tryd.prog.info? 118).map (·.size) = some 10 := by kernel_rfl

set_option maxHeartbeats 400000 in
theorem kinds_any (w : World) : Calls Tryd.prog 59 #[] w fun e w' => e = .returned (.agg kindsV) ∧ Only [] w w' := by
  go_enter Tryd.func59, Tryd.ntmps59
  go_wp2_with (with_reducible refine halt_st 118 ?_)
  obtain ⟨z, hz⟩ : ∃ z : Array Value, z = #[Value.nilFunc, Value.nilFunc, Value.nilFunc, Value.nilFunc, Value.nilFunc, Value.nilFunc, Value.nilFunc, Value.nilFunc, Value.nilFunc, Value.nilFunc] := ⟨_, rfl⟩
  rw [← hz]
  have hzs : z.size = 10 := by rw [hz]; rfl
  clear hz
  have hst : (Instr.storeAt 118 (.pointer (some ⟨w.heap.size, 0, none⟩)) (.agg #[Value.nilFunc, Value.nilFunc, Value.func (Fn.func 62) #[] #[], Value.func (Fn.func 63) #[] #[], Value.func (Fn.func 65) #[] #[], Value.func (Fn.func 67) #[] #[], Value.func (Fn.func 62) #[] #[], Value.func (Fn.func 69) #[] #[], Value.func (Fn.func 71) #[] #[], Value.func (Fn.func 72) #[] #[]])).run Tryd.prog (w.alloc (.cells z 118)) = .ok () ((w.alloc (.cells z 118)).setCells w.heap.size 0 kindsV.toList) :=
    store_blk (P := Tryd.prog) _ w.heap.size 0 118 118 z kindsV (heap_alloc_new w (.cells z 118)) (by rw [hzs]; decide) info118 (by kernel_rfl)
  have hd2 := hp_setCells_same w.heap.size kindsV.toList 0 _ z 118 (0, 0) (heap_alloc_new w (.cells z 118))
  rw [over_all z kindsV (by rw [hzs]; rfl)] at hd2
  have hld2 := load_blk (P := Tryd.prog) _ w.heap.size 0 118 118 kindsV kindsV _ hd2 (fun j _ => by rw [Nat.zero_add]) Tryd.underlying118 rfl info118
  unfold Halted
  go_wp2_with ((with_reducible refine wpList_st (ty := 118) ?_ ?_ hst (fun K hK => ?_)); rfl; rfl; go_simp; refine hK _ _ ?_; clear hK K)
  exact bodyPost_ret (v := .agg kindsV) (res_cell rfl rfl hld2) rfl ⟨rfl, ((Only.refl [] w).alloc _).setCells (.inr (Nat.le_refl _)) _ _⟩

/-- Does a whole request lie there? -/
def hasReq (w : World) (b o : Nat) : Bool := (List.range 37).all fun j => (w.cell? ⟨b, o + j, none⟩).isSome
/-- The request that lies there. -/
def reqOf (w : World) (b o : Nat) : Array Value := ((List.range 37).map fun j => (w.cell? ⟨b, o + j, none⟩).getD undef).toArray
/-- A request's load, kept whole. -/
def loadReqM (a : Addr) : Sem Value := loadVar 58 a
theorem pre58 (a : Addr) : loadVar 58 a = loadReqM a := rfl
theorem load58 {w : World} {b o : Nat} (h : hasReq w b o = true) : (loadReqM ⟨b, o, none⟩).run Tryd.prog w = .ok (.agg (reqOf w b o)) w := by
  refine run_loadVar_mid (P := Tryd.prog) w b o 58 _ _ (fun j v hv => ?_) Tryd.underlying58 rfl (by rw [info58]; simp)
  simp only [List.getElem?_map, Option.map_eq_some_iff] at hv
  obtain ⟨i, hi, rfl⟩ := hv
  obtain ⟨hj, rfl⟩ := List.getElem?_eq_some_iff.1 hi
  have := List.all_eq_true.1 h (List.range 37)[j] (List.getElem_mem hj)
  simp only [List.getElem_range] at this ⊢
  obtain ⟨u, hu⟩ := Option.isSome_iff_exists.1 this
  rw [hu]; rfl
theorem req_at {w : World} {b o : Nat} {rq : Array Value} (hs : rq.size = 37) (h : w.rangeAt b o rq.toList) : hasReq w b o = true ∧ reqOf w b o = rq := by
  have hc : ∀ j (hj : j < 37), w.cell? ⟨b, o + j, none⟩ = some (rq[j]'(by omega)) := fun j hj => h j _ (by simp [hs, hj])
  refine ⟨List.all_eq_true.2 fun j hj => by rw [hc j (by simpa using hj)]; rfl, ?_⟩
  apply Array.ext (by simp [reqOf, hs])
  intro i h1 h2
  simp [reqOf, hc i (by omega)]

/-- What Check reads of its request. -/
theorem ck_keep {w w1 w2 : World} {X : Nat} {rq : Array Value} (hs : rq.size = 37) (ho : Only [] w1 w2) (hr : w1.rangeAt X 0 rq.toList ∧ Only [] w w1 ∧ w1.cell? ⟨X, 2, none⟩ = some (.int .i64 1) ∧ hasReq w1 X 0 = true ∧ reqOf w1 X 0 = rq) :
    w2.rangeAt X 0 rq.toList ∧ Only [] w w2 ∧ w2.cell? ⟨X, 2, none⟩ = some (.int .i64 1) ∧ hasReq w2 X 0 = true ∧ reqOf w2 X 0 = rq :=
  have h := hr.2
  have hr2 : w2.rangeAt X 0 rq.toList := fun j v hv => cell_keep ho (hr.1 j v hv) (by simp)
  ⟨hr2, h.1.trans ho (by simp), cell_keep ho h.2.1 (by simp), (req_at hs hr2).1, (req_at hs hr2).2⟩

theorem index118 (w : World) : (Instr.index 118 (.agg kindsV) (.int .i64 1)).run Tryd.prog w = .ok (.agg #[.func (.func 62) #[] #[], .func (.func 63) #[] #[]]) w := by kernel_rfl
theorem field117 (w : World) : (Instr.field 117 (.agg #[.func (.func 62) #[] #[], .func (.func 63) #[] #[]]) 0).run Tryd.prog w = .ok (.func (.func 62) #[] #[]) w := by kernel_rfl

attribute [local go_sem ↓] pre58
attribute [local go_sem] load58
set_option maxHeartbeats 1000000 in
set_option maxRecDepth 100000 in
theorem check_any (rq : Array Value) (cl num : Int) (w : World) (h : Rq rq cl num) (h0 : 0 ≤ cl) (h1 : cl < 3) (h2 : 1 ≤ num) (h3 : num ≤ 9007199254740991) :
    Calls Tryd.prog 53 #[.agg rq] w fun e w' => e = .returned (.int .i64 0) ∧ Only [] w w' := by
  have hsz := h.size
  have hq0 : ∀ hp : 0 < rq.size, rq[0] = .int .i64 cl := fun hp => by
    have := h.client
    rw [Array.getElem?_eq_getElem hp] at this
    exact Option.some.inj this
  have hq1 : ∀ hp : 1 < rq.size, rq[1] = .int .i64 num := fun hp => by
    have := h.number
    rw [Array.getElem?_eq_getElem hp] at this
    exact Option.some.inj this
  go_enter Tryd.func53, Tryd.ntmps53
  go_wp2_with fail
  clear hq0 hq1
  have hb := heap_alloc_new w (.cells rq 58)
  obtain ⟨W, hW⟩ : ∃ W, W = w.alloc (.cells rq 58) := ⟨_, rfl⟩
  rw [← hW] at hb
  rw [← hW]
  have hr : W.rangeAt w.heap.size 0 rq.toList := fun j v hv => by rw [cell_blk hb, Nat.zero_add]; simpa using hv
  have hS : W.rangeAt w.heap.size 0 rq.toList ∧ Only [] w W ∧ W.cell? ⟨w.heap.size, 2, none⟩ = some (.int .i64 1) ∧ hasReq W w.heap.size 0 = true ∧ reqOf W w.heap.size 0 = rq :=
    ⟨hr, by rw [hW]; exact (Only.refl [] w).alloc _, by rw [cell_blk hb, h.kind], (req_at hsz hr).1, (req_at hsz hr).2⟩
  clear hW hr
  have hSd := ck_keep hsz (Only.drew (Only.refl [] W)) hS
  have hix := index118
  have hfl := field117
  go_region_held3 (fun w' => w'.rangeAt w.heap.size 0 rq.toList ∧ Only [] w w' ∧ w'.cell? ⟨w.heap.size, 2, none⟩ = some (.int .i64 1) ∧ hasReq w' w.heap.size 0 = true ∧ reqOf w' w.heap.size 0 = rq)
    (first | exact hS | exact hSd | exact ck_keep hsz (by assumption) ⟨by assumption, by assumption, by assumption, by assumption, by assumption⟩ | exact ck_keep hsz (by assumption) (by assumption))
    (first | (go_at_call 59; refine (kinds_any _).mono ?_; rintro e w' ⟨rfl, ho⟩) | (go_at_call 62; refine (bare_any rq cl num _ h).mono ?_; rintro e w' ⟨rfl, ho⟩))
  rename_i hH
  have hO := hH.2.1
  go_wp2_with fail
  go_ret
  exact ⟨rfl, hO⟩
end Go.Proofs.YtlmkiekdkonofaaDoor
