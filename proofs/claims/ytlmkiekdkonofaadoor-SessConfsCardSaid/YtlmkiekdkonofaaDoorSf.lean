/-
  Ask: a session that waits for nothing takes a request; one that waits answers ErrState.
-/
import Derived.Test.YtlmkiekdkonofaaDoorSe
namespace Go.Proofs.YtlmkiekdkonofaaDoor
open Go.RowKit Go.Conc

/-- A cell that is there and may be written. -/
def canW (w : World) (b i : Nat) : Bool := (w.cell? ⟨b, i, none⟩).isSome && !w.frozen? ⟨b, i, none⟩
/-- A store, kept whole. -/
def storedM (P : Program) (w : World) (a : Addr) (v : Value) (m : Mode) : Result Unit := stored P w a v m
theorem pre_stored (P : Program) (w : World) (a : Addr) (v : Value) (m : Mode) : stored P w a v m = storedM P w a v m := rfl
theorem stored_can {P : Program} {w : World} {b i : Nat} {v : Value} {m : Mode} (h : canW w b i = true) : storedM P w ⟨b, i, none⟩ v m = .ok () (w.setCell ⟨b, i, none⟩ v) := by
  unfold canW at h
  simp only [Bool.and_eq_true, Bool.not_eq_true'] at h
  obtain ⟨u, hu⟩ := Option.isSome_iff_exists.1 h.1
  unfold storedM stored
  rw [hu]
  simp [h.2]
theorem canW_eq (w : World) (b i : Nat) : canW w b i = ((w.cell? ⟨b, i, none⟩).isSome && !w.frozen? ⟨b, i, none⟩) := rfl
/-- Room for a whole request. -/
def canReq (w : World) (b o : Nat) : Bool := (List.range 37).all fun j => canW w b (o + j)
def fitReq (rq : Array Value) : Bool := rq.size == 37 && rq.all (·.oneCell')
def storeReqM (a : Addr) (v : Value) : Sem Unit := storeVar 58 a v
theorem pre58s (a : Addr) (v : Value) : storeVar 58 a v = storeReqM a v := rfl
theorem store58 {w : World} {b o : Nat} {rq : Array Value} (h : canReq w b o = true) (hf : fitReq rq = true) : (storeReqM ⟨b, o, none⟩ (.agg rq)).run Tryd.prog w = .ok () (w.setCells b o rq.toList) := by
  simp only [fitReq, Bool.and_eq_true, beq_iff_eq] at hf
  refine run_storeVar_mid (P := Tryd.prog) w b o 58 rq (fun j hj => ?_) (by rw [info58, hf.1]) hf.2
  have := List.all_eq_true.1 h j (by simp; omega)
  unfold canW at this
  simpa using this

theorem can_of {w : World} {b i : Nat} {C : Array Value} {t : TypeId} (h : w.heap[b]? = some (.cells C t (0, 0))) (hi : i < C.size) : canW w b i = true := by
  unfold canW
  rw [cell_blk h, free_blk h, Array.getElem?_eq_getElem hi]; rfl
theorem canReq_of {w : World} {b o : Nat} {C : Array Value} {t : TypeId} (h : w.heap[b]? = some (.cells C t (0, 0))) (hi : o + 37 ≤ C.size) : canReq w b o = true :=
  List.all_eq_true.2 fun j hj => can_of h (by
    have hj' : j < 37 := by simpa using hj
    omega)

theorem over_sv {s : St} {rq rq' : Array Value} {c : Nat} (h : rq.size = 37) (h' : rq'.size = 37) : over (sv s rq c) 7 rq'.toList = sv s rq' c := by
  have hsz : (sv s rq c).size = 49 := (sv_get h).2.2.2.2.2.2.2.2.2.2.2.2
  apply Array.ext_getElem?
  intro k
  rw [over_get _ _ _ _ (by simp [hsz, h'])]
  simp only [Array.length_toList, h']
  by_cases hk : 7 ≤ k ∧ k < 7 + 37
  · rw [if_pos hk]
    simp only [sv, Array.getElem?_append]
    rw [if_pos (by simp [h']; omega), if_neg (by simp; omega)]
    simp
  · rw [if_neg hk]
    simp only [sv, Array.getElem?_append]
    by_cases h7 : k < 7
    · rw [if_pos (by simp; omega), if_pos (by simpa using h7), if_pos (by simp; omega), if_pos (by simpa using h7)]
    · rw [if_neg (by simp [h]; omega), if_neg (by simp [h']; omega)]
      simp [h, h']
theorem SB.putReq {w : World} {b c : Nat} {s : St} {rq rq' : Array Value} (hb : SB w b c s rq) (h : rq.size = 37) (h' : rq'.size = 37) : SB (w.setCells b 7 rq'.toList) b c s rq' := by
  have := hp_setCells_same b rq'.toList 7 w _ _ _ hb
  rwa [over_sv h h'] at this

/-- While Ask writes: the session is somewhere on its way, the request lies in its block. -/
structure AI (b c X : Nat) (num : Int) (rq' : Array Value) (w : World) : Prop where
  sb : ∃ s rq0, SB w b c s rq0 ∧ rq0.size = 37 ∧ s.nx = num
  x : w.heap[X]? = some (.cells rq' 58 (0, 0))
theorem AI.keep {b c X : Nat} {num : Int} {rq' : Array Value} {w w' : World} (h : AI b c X num rq' w) (ho : Only [] w w') : AI b c X num rq' w' := by
  obtain ⟨s, rq0, h1, h2, h3⟩ := h.sb
  exact ⟨⟨s, rq0, h1.keep ho (by simp), h2, h3⟩, (ho.block X (hp_lt h.x) (by simp)).trans h.x⟩
theorem AI.req {b c X : Nat} {num : Int} {rq' : Array Value} {w : World} (h : AI b c X num rq' w) (hX : X ≠ b) (hs : rq'.size = 37) : AI b c X num rq' (w.setCells b 7 rq'.toList) := by
  obtain ⟨s, rq0, h1, h2, h3⟩ := h.sb
  exact ⟨⟨s, rq', h1.putReq h2 hs, hs, h3⟩, by rw [hp_setCells b _ _ _ _ hX]; exact h.x⟩
theorem AI.nm {b c X : Nat} {num : Int} {rq' : Array Value} {w : World} (h : AI b c X num rq' w) (hX : X ≠ b) (v : Int) : AI b c X num rq' (w.setCell ⟨b, 47, none⟩ (.int .i64 v)) := by
  obtain ⟨s, rq0, h1, h2, h3⟩ := h.sb
  exact ⟨⟨_, rq0, h1.put (sv_nm h2 v), h2, h3⟩, by rw [hp_set, if_neg hX]; exact h.x⟩
theorem AI.tk {b c X : Nat} {num : Int} {rq' : Array Value} {w : World} (h : AI b c X num rq' w) (hX : X ≠ b) (v : Int) : AI b c X num rq' (w.setCell ⟨b, 46, none⟩ (.int .i64 v)) := by
  obtain ⟨s, rq0, h1, h2, h3⟩ := h.sb
  exact ⟨⟨_, rq0, h1.put (sv_tk h2 v), h2, h3⟩, by rw [hp_set, if_neg hX]; exact h.x⟩
theorem AI.wt {b c X : Nat} {num : Int} {rq' : Array Value} {w : World} (h : AI b c X num rq' w) (hX : X ≠ b) (v : Bool) : AI b c X num rq' (w.setCell ⟨b, 44, none⟩ (.bool v)) := by
  obtain ⟨s, rq0, h1, h2, h3⟩ := h.sb
  exact ⟨⟨_, rq0, h1.put (sv_wt h2 v), h2, h3⟩, by rw [hp_set, if_neg hX]; exact h.x⟩
theorem AI.lt {b c X : Nat} {num : Int} {rq' : Array Value} {w : World} (h : AI b c X num rq' w) (hX : X ≠ b) (v : Bool) : AI b c X num rq' (w.setCell ⟨b, 45, none⟩ (.bool v)) := by
  obtain ⟨s, rq0, h1, h2, h3⟩ := h.sb
  exact ⟨⟨_, rq0, h1.put (sv_lt h2 v), h2, h3⟩, by rw [hp_set, if_neg hX]; exact h.x⟩
theorem AI.facts {b c X : Nat} {num : Int} {rq' : Array Value} {w : World} (h : AI b c X num rq' w) (hs : rq'.size = 37) :
    AI b c X num rq' w ∧ w.cell? ⟨b, 1, none⟩ = some (.int .i64 num) ∧ hasReq w X 0 = true ∧ reqOf w X 0 = rq' ∧ canReq w b 7 = true ∧ canW w b 44 = true ∧ canW w b 45 = true ∧ canW w b 46 = true ∧ canW w b 47 = true := by
  obtain ⟨s, rq0, h1, h2, h3⟩ := h.sb
  have hsz : (sv s rq0 c).size = 49 := (sv_get h2).2.2.2.2.2.2.2.2.2.2.2.2
  have hr := req_at (w := w) (b := X) (o := 0) hs (fun j v hv => by rw [cell_blk h.x, Nat.zero_add]; simpa using hv)
  exact ⟨h, by rw [(h1.cells h2).2.1, h3], hr.1, hr.2, canReq_of h1 (by omega), can_of h1 (by omega), can_of h1 (by omega), can_of h1 (by omega), can_of h1 (by omega)⟩

theorem Rq.ask {rq : Array Value} (h : Rq rq 0 0) (cl num : Int) : Rq ((rq.setIfInBounds 0 (.int .i64 cl)).setIfInBounds 1 (.int .i64 num)) cl num := by
  have hs := h.size
  refine ⟨by simp [hs], ?_, ?_, ?_, ?_, ?_, ?_⟩
  · simp [hs]
  · simp [hs]
  · simpa [Array.getElem?_setIfInBounds] using h.kind
  · simpa [Array.getElem?_setIfInBounds] using h.version
  · simpa [Array.getElem?_setIfInBounds] using h.env
  · rw [Array.all_eq_true_iff_forall_mem]
    intro v hv
    rcases Array.mem_or_eq_of_mem_setIfInBounds hv with hv | rfl
    · rcases Array.mem_or_eq_of_mem_setIfInBounds hv with hv | rfl
      · exact Array.all_eq_true_iff_forall_mem.1 h.one v hv
      · rfl
    · rfl

/-- While Ask fills the request in. -/
structure BI (b c X : Nat) (s : St) (rq0 : Array Value) (w : World) : Prop where
  sb : SB w b c s rq0
  x : ∃ C, w.heap[X]? = some (.cells C 58 (0, 0)) ∧ C.size = 37
theorem BI.drew {b c X : Nat} {s : St} {rq0 : Array Value} {w : World} (h : BI b c X s rq0 w) : BI b c X s rq0 w.drew := ⟨h.sb, h.x⟩
theorem BI.put {b c X : Nat} {s : St} {rq0 : Array Value} {w : World} (h : BI b c X s rq0 w) (hX : X ≠ b) (i : Nat) (v : Value) : BI b c X s rq0 (w.setCell ⟨X, i, none⟩ v) := by
  obtain ⟨C, hC, hs⟩ := h.x
  refine ⟨?_, C.setIfInBounds i v, ?_, by simpa using hs⟩
  · have := h.sb
    unfold SB at this ⊢
    rwa [hp_set, if_neg (fun e => hX e.symm)]
  · rw [hp_set, if_pos rfl, hC, Option.map_some, setc_cells]
theorem BI.facts {b c X : Nat} {s : St} {rq0 : Array Value} {w : World} (h : BI b c X s rq0 w) (hz : rq0.size = 37) :
    BI b c X s rq0 w ∧ w.cell? ⟨b, 0, none⟩ = some (.int .i64 s.cl) ∧ w.cell? ⟨b, 1, none⟩ = some (.int .i64 s.nx) ∧ canW w X 0 = true ∧ canW w X 1 = true := by
  obtain ⟨C, hC, hs⟩ := h.x
  exact ⟨h, (h.sb.cells hz).1, (h.sb.cells hz).2.1, can_of hC (by omega), can_of hC (by omega)⟩

theorem fit_of {rq : Array Value} {cl num : Int} (h : Rq rq cl num) : fitReq rq = true := by
  unfold fitReq
  rw [h.one, h.size]; rfl

/-- Behind Ask the session waits for its answer, and its request waits to be sent. -/
def Asked20 (b c : Nat) (s : St) (w : World) (e : Ending) (w' : World) : Prop :=
  ∃ rq, e = .returned (.tuple #[.int .i64 s.nx, .int .i64 0]) ∧ Rq rq s.cl s.nx ∧ SB w' b c { s with nx := s.nx + 1, wt := true, lt := false, tk := 0, nm := s.nx } rq ∧ Ch w' c #[.agg rq] ∧ Only [b, c] w w'

attribute [local go_sem ↓] pre58 pre58s pre_stored
attribute [local go_sem] load58 store58 stored_can
attribute [local go_sem low] canW_eq
set_option maxHeartbeats 1000000 in
set_option maxRecDepth 100000 in
theorem ask_any (b c : Nat) (s : St) (rq0 rq : Array Value) (w : World) (hs : SB w b c s rq0) (hz : rq0.size = 37) (hc : Ch w c #[]) (hbc : b ≠ c) (h : Rq rq 0 0) (hwt : s.wt = false)
    (h0 : 0 ≤ s.cl) (h1 : s.cl < 3) (h2 : 1 ≤ s.nx) (h3 : s.nx ≤ 100) :
    Calls Tryd.prog 50 #[.pointer (some ⟨b, 0, none⟩), .agg rq] w (Asked20 b c s w) := by
  have hsz := h.size
  go_enter Tryd.func50, Tryd.ntmps50
  go_wp2_with fail
  have hb := heap_alloc_new w (.cells rq 58)
  obtain ⟨W, hW⟩ : ∃ W, W = w.alloc (.cells rq 58) := ⟨_, rfl⟩
  rw [← hW] at hb
  rw [← hW]
  have ho : Only [] w W := by rw [hW]; exact (Only.refl [] w).alloc _
  clear hW
  have hS := hs.keep ho (by simp)
  have hC := hc.keep ho (by simp)
  obtain ⟨k0, k1, k2, k3, k4, k5, k6, k44, k45, k46, k47, k48⟩ := hS.cells hz
  rw [hwt] at k44
  refine (sess_none b c W k48).mono ?_
  rintro e w1 ⟨rfl, rfl⟩
  go_wp2_with fail
  have hX : w.heap.size ≠ b := by have := hp_lt hs; omega
  have hB : BI b c w.heap.size s rq0 W := ⟨hS, rq, hb, hsz⟩
  have hF := hB.facts hz
  have hFd := hB.drew.facts hz
  clear k0 k1
  go_region_held3 (fun w' => BI b c w.heap.size s rq0 w' ∧ w'.cell? ⟨b, 0, none⟩ = some (.int .i64 s.cl) ∧ w'.cell? ⟨b, 1, none⟩ = some (.int .i64 s.nx) ∧ canW w' w.heap.size 0 = true ∧ canW w' w.heap.size 1 = true)
    (first | exact hF | exact hFd | exact (BI.put (by assumption) hX _ _).facts hz | exact (BI.put (And.left (by assumption)) hX _ _).facts hz)
    (fail)
  clear hF hFd hB k2 k3 k4 k5 k6 k44 k45 k46 k47 k48
  obtain ⟨V, hV⟩ : ∃ V, V = ((W.setCell ⟨w.heap.size, 0, none⟩ (.int .i64 s.cl)).setCell ⟨w.heap.size, 1, none⟩ (.int .i64 s.nx)).drew := ⟨_, rfl⟩
  rw [← hV]
  obtain ⟨rq', hrq'⟩ : ∃ rq', rq' = (rq.setIfInBounds 0 (.int .i64 s.cl)).setIfInBounds 1 (.int .i64 s.nx) := ⟨_, rfl⟩
  have hR : Rq rq' s.cl s.nx := by rw [hrq']; exact h.ask _ _
  have hVx : V.heap[w.heap.size]? = some (.cells rq' 58 (0, 0)) := by
    rw [hV, hp_drew, hp_set, if_pos rfl, hp_set, if_pos rfl, hb, Option.map_some, Option.map_some, setc_cells, setc_cells, hrq']
  have hoV : Only [] w V := by rw [hV]; exact ((ho.setCell _ _ _ (.inr (Nat.le_refl _))).setCell _ _ _ (.inr (Nat.le_refl _))).drew
  clear hV hrq' hb hS hC ho
  have hS := hs.keep hoV (by simp)
  have hC := hc.keep hoV (by simp)
  have hsz' := hR.size
  have hA : AI b c w.heap.size s.nx rq' V := ⟨⟨s, rq0, hS, hz, rfl⟩, hVx⟩
  obtain ⟨_, _, hq1, hq2, _⟩ := hA.facts hsz'
  go_wp2_with fail
  refine (check_any rq' s.cl s.nx V hR h0 h1 h2 (by omega)).mono ?_
  rintro e w1 ⟨rfl, ho1⟩
  have hS1 := hS.keep ho1 (by simp)
  have hC1 := hC.keep ho1 (by simp)
  have hA1 := hA.keep ho1
  have hF1 := hA1.facts hsz'
  have hF1d := (hA1.keep (Only.drew (Only.refl [] w1))).facts hsz'
  have hfit : fitReq rq' = true := fit_of hR
  clear hq1 hq2
  go_wp2_with fail
  go_region_held3 (fun w' => AI b c w.heap.size s.nx rq' w' ∧ w'.cell? ⟨b, 1, none⟩ = some (.int .i64 s.nx) ∧ hasReq w' w.heap.size 0 = true ∧ reqOf w' w.heap.size 0 = rq' ∧ canReq w' b 7 = true ∧ canW w' b 44 = true ∧ canW w' b 45 = true ∧ canW w' b 46 = true ∧ canW w' b 47 = true)
    (first | exact hF1 | exact hF1d | exact (AI.keep (by assumption) (by assumption)).facts hsz' | exact (AI.keep (And.left (by assumption)) (by assumption)).facts hsz' | exact (AI.req (And.left (by assumption)) hX hsz').facts hsz' | exact (AI.nm (And.left (by assumption)) hX _).facts hsz' | exact (AI.tk (And.left (by assumption)) hX _).facts hsz' | exact (AI.wt (And.left (by assumption)) hX _).facts hsz' | exact (AI.lt (And.left (by assumption)) hX _).facts hsz')
    (first | (go_at_call 41; refine (own_any rq' s.cl s.nx _ hR).mono ?_; rintro e w' ⟨rfl, hown⟩))
  clear hF1 hF1d hA1 hA
  have hS2 : SB w' b c s rq0 := by first | exact hS1.keep hown (by simp) | exact SB.keep (w := w1.drew) hS1 hown (by simp)
  have hC2 : Ch w' c #[] := by first | exact hC1.keep hown (by simp) | exact Ch.keep (w := w1.drew) hC1 hown (by simp)
  have ho2 : Only [] w w' := by first | exact (hoV.trans ho1 (by simp)).trans hown (by simp) | exact (hoV.trans ho1 (by simp)).drew.trans hown (by simp)
  obtain ⟨U, hU⟩ : ∃ U, U = (((((w'.setCells b 7 rq'.toList).setCell ⟨b, 47, none⟩ (.int .i64 s.nx)).setCell ⟨b, 46, none⟩ (.int .i64 0)).setCell ⟨b, 44, none⟩ (.bool true)).setCell ⟨b, 45, none⟩ (.bool false)) := ⟨_, rfl⟩
  rw [← hU]
  have hSU : SB U b c { s with nm := s.nx, tk := 0, wt := true, lt := false } rq' := by
    rw [hU]
    exact ((((hS2.putReq hz hsz').put (sv_nm hsz' _)).put (sv_tk hsz' _)).put (sv_wt hsz' _)).put (sv_lt hsz' _)
  have hoU : Only [b] w' U := by
    rw [hU]
    exact ((((Only.setCells (.inl (by simp)) _ _ (Only.refl [b] w')).setCell _ _ _ (.inl (by simp))).setCell _ _ _ (.inl (by simp))).setCell _ _ _ (.inl (by simp))).setCell _ _ _ (.inl (by simp))
  clear hU
  have hncb : c ∉ [b] := by simpa using fun e : c = b => hbc e.symm
  have hnbc : b ∉ [c] := by simpa using hbc
  have hCU := hC2.keep hoU hncb
  obtain ⟨_, j1, _, _, _, _, _, _, _, _, _, j48⟩ := hSU.cells hsz'
  have jf := hSU.free 1
  go_wp2_with fail
  obtain ⟨T, hT⟩ : ∃ T, T = U.setCell ⟨b, 1, none⟩ (.int .i64 (s.nx + 1)) := ⟨_, rfl⟩
  rw [← hT]
  have hST : SB T b c { s with nx := s.nx + 1, nm := s.nx, tk := 0, wt := true, lt := false } rq' := by
    rw [hT]
    exact hSU.put (sv_nx _)
  have hoT : Only [b] U T := by
    rw [hT]
    exact (Only.refl [b] U).setCell _ _ _ (.inl (by simp))
  clear hT
  have hCT := hCU.keep hoT hncb
  obtain ⟨_, _, _, _, _, _, _, _, _, _, _, i48⟩ := hST.cells hsz'
  refine (clear0 b c T i48 hCT).mono ?_
  rintro e w2 ⟨rfl, hC3, ho3⟩
  have hS3 := hST.keep ho3 hnbc
  go_wp2_with fail
  refine (unsent0 b c _ rq' s.cl s.nx w2 hS3 hC3 hR).mono ?_
  rintro e w3 ⟨rfl, hC4, ho4⟩
  have hS4 := hS3.keep ho4 hnbc
  obtain ⟨_, _, _, _, _, _, _, _, _, _, l47, _⟩ := hS4.cells hsz'
  go_wp2_with fail
  go_ret2
  exact ⟨rq', rfl, hR, hS4, hC4, ((((ho2.mono (bs' := [b, c]) (by simp)).trans hoU (by simp)).trans hoT (by simp)).trans ho3 (by simp)).trans ho4 (by simp)⟩

set_option maxHeartbeats 1000000 in
theorem ask_busy (b c : Nat) (s : St) (rq0 rq : Array Value) (w : World) (hs : SB w b c s rq0) (hz : rq0.size = 37) (h : Rq rq 0 0) (hwt : s.wt = true) :
    Calls Tryd.prog 50 #[.pointer (some ⟨b, 0, none⟩), .agg rq] w fun e w' => e = .returned (.tuple #[.int .i64 0, .int .i64 170]) ∧ Only [] w w' := by
  have hsz := h.size
  go_enter Tryd.func50, Tryd.ntmps50
  go_wp2_with fail
  obtain ⟨W, hW⟩ : ∃ W, W = w.alloc (.cells rq 58) := ⟨_, rfl⟩
  rw [← hW]
  have ho : Only [] w W := by rw [hW]; exact (Only.refl [] w).alloc _
  clear hW
  have hS := hs.keep ho (by simp)
  obtain ⟨_, _, _, _, _, _, _, k44, _, _, _, k48⟩ := hS.cells hz
  rw [hwt] at k44
  refine (sess_none b c W k48).mono ?_
  rintro e w1 ⟨rfl, rfl⟩
  go_wp2_with fail
  go_ret2
  exact ⟨rfl, ho⟩
end Go.Proofs.YtlmkiekdkonofaaDoor
