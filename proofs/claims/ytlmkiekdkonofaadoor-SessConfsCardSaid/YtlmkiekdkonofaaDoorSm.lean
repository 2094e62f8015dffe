/-
  request: a packet that holds a request.
-/
import Derived.Test.YtlmkiekdkonofaaDoorSj
namespace Go.Proofs.YtlmkiekdkonofaaDoor
open Go.RowKit Go.Conc

theorem foldl_over : ∀ (l : List Value) (k : Nat) (C : Array Value), (l.zipIdx k).foldl (fun cs x => cs.setIfInBounds (7 + x.2) x.1) C = over C (7 + k) l
  | [], _, _ => rfl
  | v :: r, k, C => by
    rw [List.zipIdx_cons, List.foldl_cons, over]
    exact foldl_over r (k + 1) _

theorem z61_size : Tryd.zeroCells61.size = 87 := by kernel_rfl
theorem z61_one : Tryd.zeroCells61.all (·.oneCell') = true := by kernel_rfl
noncomputable def reqPk (rq : Array Value) (f t : Int) : Array Value := rq.zipIdx.foldl (fun cs x => cs.setIfInBounds (7 + x.2) x.1) (((Tryd.zeroCells61.setIfInBounds 0 (.int .i64 1)).setIfInBounds 1 (.int .i64 f)).setIfInBounds 2 (.int .i64 t))
theorem reqPk_over (rq : Array Value) (f t : Int) : reqPk rq f t = over (((Tryd.zeroCells61.setIfInBounds 0 (.int .i64 1)).setIfInBounds 1 (.int .i64 f)).setIfInBounds 2 (.int .i64 t)) 7 rq.toList := by
  unfold reqPk
  rw [← Array.foldl_toList, Array.toList_zipIdx]
  exact foldl_over rq.toList 0 _
theorem over_all_one : ∀ (l : List Value) (C : Array Value) (o : Nat), (∀ v ∈ C, v.oneCell' = true) → (∀ v ∈ l, v.oneCell' = true) → ∀ v ∈ over C o l, v.oneCell' = true
  | [], _, _, h, _ => h
  | u :: r, C, o, h, h' => by
    rw [over]
    refine over_all_one r _ _ (fun v hv => ?_) (fun v hv => h' v (by simp [hv]))
    rcases Array.mem_or_eq_of_mem_setIfInBounds hv with hv | rfl
    · exact h v hv
    · exact h' _ (by simp)
theorem reqPk_facts (rq : Array Value) (f t : Int) (hz : rq.size = 37) (h1 : rq.all (·.oneCell') = true) :
    (reqPk rq f t).size = 87 ∧ (reqPk rq f t)[0]? = some (.int .i64 1) ∧ (reqPk rq f t)[2]? = some (.int .i64 t) ∧ (reqPk rq f t).all (·.oneCell') = true := by
  rw [reqPk_over]
  have hs : (((Tryd.zeroCells61.setIfInBounds 0 (.int .i64 1)).setIfInBounds 1 (.int .i64 f)).setIfInBounds 2 (.int .i64 t)).size = 87 := by rw [Array.size_setIfInBounds, Array.size_setIfInBounds, Array.size_setIfInBounds, z61_size]
  refine ⟨by rw [over_size, hs], ?_, ?_, ?_⟩
  · rw [over_get _ _ _ _ (by simp [hs, hz]), if_neg (by omega)]
    simp
  · rw [over_get _ _ _ _ (by simp [hs, hz]), if_neg (by omega)]
    simp
  · rw [Array.all_eq_true_iff_forall_mem]
    refine over_all_one _ _ _ (fun v hv => ?_) (fun v hv => Array.all_eq_true_iff_forall_mem.1 h1 v (by simpa using hv))
    rcases Array.mem_or_eq_of_mem_setIfInBounds hv with hv | rfl
    · rcases Array.mem_or_eq_of_mem_setIfInBounds hv with hv | rfl
      · rcases Array.mem_or_eq_of_mem_setIfInBounds hv with hv | rfl
        · exact Array.all_eq_true_iff_forall_mem.1 z61_one v hv
        · rfl
      · rfl
    · rfl

theorem fold61 (rq : Array Value) (f t : Int) (hz : rq.size = 37) :
    Array.foldl (fun cs x => cs.setIfInBounds (7 + x.snd) x.fst) (((Tryd.zeroCells61.setIfInBounds 0 (.int .i64 1)).setIfInBounds 1 (.int .i64 f)).setIfInBounds 2 (.int .i64 t)) rq.zipIdx 0 37 = reqPk rq f t := by
  have h : rq.zipIdx.size = 37 := by simpa using hz
  unfold reqPk
  rw [h]

/-- Room for a whole packet. -/
def canPk (w : World) (b : Nat) : Bool := (List.range 87).all fun j => canW w b (0 + j)
def fitPk (L : Array Value) : Bool := L.size == 87 && L.all (·.oneCell')
def storePkM (a : Addr) (v : Value) : Sem Unit := storeVar 61 a v
theorem pre61s (a : Addr) (v : Value) : storeVar 61 a v = storePkM a v := rfl
theorem store61 {w : World} {b : Nat} {L : Array Value} (h : canPk w b = true) (hf : fitPk L = true) : (storePkM ⟨b, 0, none⟩ (.agg L)).run Tryd.prog w = .ok () (w.setCells b 0 L.toList) := by
  simp only [fitPk, Bool.and_eq_true, beq_iff_eq] at hf
  refine run_storeVar_mid (P := Tryd.prog) w b 0 61 L (fun j hj => ?_) (by rw [info61, hf.1]) hf.2
  have := List.all_eq_true.1 h j (by simp; omega)
  unfold canW at this
  simpa using this

/-- While request builds its packet. -/
structure RI (b c X g : Nat) (s : St) (rq0 rq : Array Value) (x : Int) (w : World) : Prop where
  sb : SB w b c s rq0
  hx : w.heap[X]? = some (.cells rq 58 (0, 0))
  hy : ∃ C, w.heap[X + 1]? = some (.cells C 61 (0, 0)) ∧ C.size = 87
  i : w.cell? ⟨g, 0, none⟩ = some (.int .i64 x)
theorem RI.drew {b c X g : Nat} {s : St} {rq0 rq : Array Value} {x : Int} {w : World} (h : RI b c X g s rq0 rq x w) : RI b c X g s rq0 rq x w.drew := ⟨h.sb, h.hx, h.hy, h.i⟩
theorem RI.put {b c X g : Nat} {s : St} {rq0 rq : Array Value} {x : Int} {w : World} (h : RI b c X g s rq0 rq x w) (hb : X + 1 ≠ b) (hg : g ≠ X + 1) (L : Array Value) : RI b c X g s rq0 rq x (w.setCells (X + 1) 0 L.toList) := by
  have ho : Only [X + 1] w (w.setCells (X + 1) 0 L.toList) := Only.setCells (.inl (by simp)) _ _ (Only.refl [X + 1] w)
  obtain ⟨C, hC, hs⟩ := h.hy
  exact ⟨h.sb.keep ho (by simpa using fun e : b = X + 1 => hb e.symm), ho.get h.hx (by simp), ⟨_, hp_setCells_same _ _ _ _ _ _ _ hC, by rw [over_size, hs]⟩, cell_keep ho h.i (by simpa using hg)⟩
theorem RI.facts {b c X g : Nat} {s : St} {rq0 rq : Array Value} {x : Int} {w : World} (h : RI b c X g s rq0 rq x w) (hz0 : rq0.size = 37) (hz : rq.size = 37) :
    RI b c X g s rq0 rq x w ∧ w.cell? ⟨b, 0, none⟩ = some (.int .i64 s.cl) ∧ w.cell? ⟨b, 6, none⟩ = some s.ch ∧ w.cell? ⟨g, 0, none⟩ = some (.int .i64 x) ∧ hasReq w X 0 = true ∧ reqOf w X 0 = rq ∧ canPk w (X + 1) = true := by
  obtain ⟨C, hC, hs⟩ := h.hy
  have hr := req_at (w := w) (b := X) (o := 0) hz (fun j v hv => by rw [cell_blk h.hx, Nat.zero_add]; simpa using hv)
  exact ⟨h, (h.sb.cells hz0).1, (h.sb.cells hz0).2.2.2.2.2.2.1, h.i, hr.1, hr.2, List.all_eq_true.2 fun j hj => can_of hC (by
    have hj' : j < 87 := by simpa using hj
    omega)⟩

attribute [local go_sem ↓] pre58 pre61s
attribute [local go_sem] load58 store61
set_option maxHeartbeats 1000000 in
set_option maxRecDepth 100000 in
theorem request_any (b c : Nat) (s : St) (rq0 rq : Array Value) (x y : Int) (w : World) (hs : SB w b c s rq0) (hz0 : rq0.size = 37) (hz : rq.size = 37) (h1 : rq.all (·.oneCell') = true) (hi : Ints w s.ch [x, y]) (h0 : 0 ≤ s.cl) (h2 : s.cl ≤ 2) :
    Calls Tryd.prog 40 #[.pointer (some ⟨b, 0, none⟩), .agg rq] w fun e w' => e = .returned (.agg (reqPk rq (20 + s.cl) x)) ∧ Only [] w w' := by
  have hf := reqPk_facts rq (20 + s.cl) x hz h1
  have hfit : fitPk (reqPk rq (20 + s.cl) x) = true := by unfold fitPk; rw [hf.2.2.2, hf.1]; rfl
  obtain ⟨g, q, hv, hg, hcell⟩ := hi.cell
  have hv' : s.ch = .slice (some ⟨g, 0, none⟩) 2 q := hv
  have hg0 := hcell 0 x rfl
  clear hv hcell hi
  go_enter Tryd.func40, Tryd.ntmps40
  go_wp2_with fail
  obtain ⟨W, hW⟩ : ∃ W, W = (w.alloc (.cells rq 58)).alloc (.cells Tryd.zeroCells61 61) := ⟨_, rfl⟩
  rw [← hW]
  have hb1 : W.heap[w.heap.size]? = some (.cells rq 58 (0, 0)) := by rw [hW]; exact (new_two w _ _).1
  have hb2 : W.heap[w.heap.size + 1]? = some (.cells Tryd.zeroCells61 61 (0, 0)) := by rw [hW]; exact (new_two w _ _).2
  have ho : Only [] w W := by rw [hW]; exact ((Only.refl [] w).alloc _).alloc _
  clear hW
  have hbw := hp_lt hs
  have n1 : w.heap.size + 1 ≠ b := by omega
  have n2 : g ≠ w.heap.size + 1 := by omega
  have hRI : RI b c w.heap.size g s rq0 rq x W := ⟨hs.keep ho (by simp), hb1, ⟨_, hb2, z61_size⟩, cell_keep ho hg0 (by simp)⟩
  have hF := hRI.facts hz0 hz
  have hFd := hRI.drew.facts hz0 hz
  have hfold := fold61 rq (20 + s.cl) x hz
  have hcl := Lib.hid (And.intro h0 h2)
  rw [hv'] at hF hFd
  go_region_held3 (fun w' => RI b c w.heap.size g s rq0 rq x w' ∧ w'.cell? ⟨b, 0, none⟩ = some (.int .i64 s.cl) ∧ w'.cell? ⟨b, 6, none⟩ = some (.slice (some ⟨g, 0, none⟩) 2 q) ∧ w'.cell? ⟨g, 0, none⟩ = some (.int .i64 x) ∧ hasReq w' w.heap.size 0 = true ∧ reqOf w' w.heap.size 0 = rq ∧ canPk w' (w.heap.size + 1) = true)
    (first | exact hF | exact hFd | (rw [← hv']; exact (RI.put (And.left (by assumption)) n1 n2 _).facts hz0 hz))
    (first | (go_at_call 35; refine (node_any b s.cl _ (And.left (And.right (by assumption))) h0 h2).mono ?_; rintro e w' ⟨rfl, rfl⟩))
  have hd2 := hp_setCells_same (w.heap.size + 1) (reqPk rq (20 + s.cl) x).toList 0 W.drew Tryd.zeroCells61 61 (0, 0) hb2
  rw [over_all _ _ (by rw [z61_size, hf.1])] at hd2
  have hl := load_whole (P := Tryd.prog) hd2 Tryd.underlying61 rfl (by rw [info61, hf.1])
  go_wp2_with fail
  exact bodyPost_ret (v := .agg _) (res_cell rfl rfl hl) rfl ⟨rfl, Only.setCells (.inr (by omega)) _ _ ho.drew⟩
end Go.Proofs.YtlmkiekdkonofaaDoor
