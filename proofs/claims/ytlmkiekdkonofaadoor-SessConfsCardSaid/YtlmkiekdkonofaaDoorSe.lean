/-
  THE SESSION's BLOCK: its cells, and what a store turns; unsent.
-/
import Derived.Test.YtlmkiekdkonofaaDoorSd
namespace Go.Proofs.YtlmkiekdkonofaaDoor
open Go.RowKit Go.Conc

/-- What a session holds besides its request. -/
structure St where
  cl : Int
  nx : Int
  li : Int
  mo : Int
  cn : Int
  cf : Int
  ch : Value
  wt : Bool
  lt : Bool
  tk : Int
  nm : Int

def sv (s : St) (rq : Array Value) (c : Nat) : Array Value :=
  #[.int .i64 s.cl, .int .i64 s.nx, .int .i64 s.li, .int .i64 s.mo, .int .i64 s.cn, .int .i64 s.cf, s.ch] ++ rq ++ #[.bool s.wt, .bool s.lt, .int .i64 s.tk, .int .i64 s.nm, .chan (some c)]

def SB (w : World) (b c : Nat) (s : St) (rq : Array Value) : Prop := w.heap[b]? = some (.cells (sv s rq c) 94 (0, 0))

theorem sv_get {s : St} {rq : Array Value} {c : Nat} (h : rq.size = 37) :
    (sv s rq c)[0]? = some (.int .i64 s.cl) ∧ (sv s rq c)[1]? = some (.int .i64 s.nx) ∧ (sv s rq c)[2]? = some (.int .i64 s.li) ∧ (sv s rq c)[3]? = some (.int .i64 s.mo) ∧ (sv s rq c)[4]? = some (.int .i64 s.cn) ∧
    (sv s rq c)[5]? = some (.int .i64 s.cf) ∧ (sv s rq c)[6]? = some s.ch ∧ (sv s rq c)[44]? = some (.bool s.wt) ∧ (sv s rq c)[45]? = some (.bool s.lt) ∧ (sv s rq c)[46]? = some (.int .i64 s.tk) ∧
    (sv s rq c)[47]? = some (.int .i64 s.nm) ∧ (sv s rq c)[48]? = some (.chan (some c)) ∧ (sv s rq c).size = 49 := by
  simp [sv, h]

theorem SB.cells {w : World} {b c : Nat} {s : St} {rq : Array Value} (hb : SB w b c s rq) (h : rq.size = 37) :
    w.cell? ⟨b, 0, none⟩ = some (.int .i64 s.cl) ∧ w.cell? ⟨b, 1, none⟩ = some (.int .i64 s.nx) ∧ w.cell? ⟨b, 2, none⟩ = some (.int .i64 s.li) ∧ w.cell? ⟨b, 3, none⟩ = some (.int .i64 s.mo) ∧ w.cell? ⟨b, 4, none⟩ = some (.int .i64 s.cn) ∧
    w.cell? ⟨b, 5, none⟩ = some (.int .i64 s.cf) ∧ w.cell? ⟨b, 6, none⟩ = some s.ch ∧ w.cell? ⟨b, 44, none⟩ = some (.bool s.wt) ∧ w.cell? ⟨b, 45, none⟩ = some (.bool s.lt) ∧ w.cell? ⟨b, 46, none⟩ = some (.int .i64 s.tk) ∧
    w.cell? ⟨b, 47, none⟩ = some (.int .i64 s.nm) ∧ w.cell? ⟨b, 48, none⟩ = some (.chan (some c)) := by
  obtain ⟨h0, h1, h2, h3, h4, h5, h6, h7, h8, h9, h10, h11, _⟩ := sv_get (s := s) (c := c) h
  exact ⟨(cell_blk hb 0).trans h0, (cell_blk hb 1).trans h1, (cell_blk hb 2).trans h2, (cell_blk hb 3).trans h3, (cell_blk hb 4).trans h4, (cell_blk hb 5).trans h5, (cell_blk hb 6).trans h6,
    (cell_blk hb 44).trans h7, (cell_blk hb 45).trans h8, (cell_blk hb 46).trans h9, (cell_blk hb 47).trans h10, (cell_blk hb 48).trans h11⟩
theorem SB.free {w : World} {b c : Nat} {s : St} {rq : Array Value} (hb : SB w b c s rq) (i : Nat) : w.frozen? ⟨b, i, none⟩ = false := free_blk hb i
theorem SB.req {w : World} {b c : Nat} {s : St} {rq : Array Value} (hb : SB w b c s rq) (h : rq.size = 37) : hasReq w b 7 = true ∧ reqOf w b 7 = rq :=
  req_at h (fun j v hv => by
    have hj : j < 37 := by simpa [h] using (List.getElem?_eq_some_iff.1 hv).1
    rw [cell_blk hb]
    have : (sv s rq c)[7 + j]? = rq[j]? := by
      simp only [sv, Array.getElem?_append]
      rw [if_pos (by simp [h]; omega), if_neg (by simp)]
      simp
    rw [this]; simpa using hv)
theorem SB.keep {w w' : World} {b c : Nat} {s : St} {rq : Array Value} {bs : List Nat} (hb : SB w b c s rq) (ho : Only bs w w') (hn : b ∉ bs) : SB w' b c s rq := (ho.block b (hp_lt hb) hn).trans hb

theorem SB.put {w : World} {b c : Nat} {s s' : St} {rq : Array Value} {i : Nat} {v : Value} (hb : SB w b c s rq) (h : (sv s rq c).setIfInBounds i v = sv s' rq c) : SB (w.setCell ⟨b, i, none⟩ v) b c s' rq := by
  unfold SB at hb ⊢
  rw [hp_set, if_pos rfl, hb, Option.map_some, setc_cells, h]

section
variable {s : St} {rq : Array Value} {c : Nat}
theorem sv_nx (v : Int) : (sv s rq c).setIfInBounds 1 (.int .i64 v) = sv { s with nx := v } rq c := by simp [sv]
theorem sv_cn (v : Int) : (sv s rq c).setIfInBounds 4 (.int .i64 v) = sv { s with cn := v } rq c := by simp [sv]
theorem sv_cf (v : Int) : (sv s rq c).setIfInBounds 5 (.int .i64 v) = sv { s with cf := v } rq c := by simp [sv]
theorem sv_ch (v : Value) : (sv s rq c).setIfInBounds 6 v = sv { s with ch := v } rq c := by simp [sv]
theorem sv_wt (h : rq.size = 37) (v : Bool) : (sv s rq c).setIfInBounds 44 (.bool v) = sv { s with wt := v } rq c := by simp [sv, h]
theorem sv_lt (h : rq.size = 37) (v : Bool) : (sv s rq c).setIfInBounds 45 (.bool v) = sv { s with lt := v } rq c := by simp [sv, h]
theorem sv_tk (h : rq.size = 37) (v : Int) : (sv s rq c).setIfInBounds 46 (.int .i64 v) = sv { s with tk := v } rq c := by simp [sv, h]
theorem sv_nm (h : rq.size = 37) (v : Int) : (sv s rq c).setIfInBounds 47 (.int .i64 v) = sv { s with nm := v } rq c := by simp [sv, h]
end

/-- Behind unsent the request waits to be sent. -/
def Unsent (c : Nat) (rq : Array Value) (w : World) (e : Ending) (w' : World) : Prop := e = .returned (.tuple #[]) ∧ Ch w' c #[.agg rq] ∧ Only [c] w w'

attribute [local go_sem ↓] pre58
attribute [local go_sem] load58
set_option maxHeartbeats 400000 in
theorem unsent0 (b c : Nat) (s : St) (rq : Array Value) (cl num : Int) (W : World) (hs : SB W b c s rq) (hc : Ch W c #[]) (h : Rq rq cl num) :
    Calls Tryd.prog 38 #[.pointer (some ⟨b, 0, none⟩)] W (Unsent c rq W) := by
  obtain ⟨_, _, _, _, _, _, _, _, _, _, _, h48⟩ := hs.cells h.size
  obtain ⟨hr1, hr2⟩ := hs.req h.size
  go_enter Tryd.func38, Tryd.ntmps38
  go_wp2_with fail
  refine (own_any rq cl num _ h).mono ?_
  rintro e w1 ⟨rfl, ho⟩
  have hc1 := hc.keep ho (by simp)
  dsimp only
  repeat (first | with_reducible refine wp_send0 (id := 2) (x := .tmp 5) (y := .tmp 10) (v := .agg rq) ?_ ?_ ?_ ?_ zero58 hc1 (fun w2 h1 h2 h3 K hK => ?_) | go_values | go_skip | go_guarded | go_step | go_upon)
  · rfl
  · rfl
  · rfl
  · rfl
  go_simp
  refine hK _ _ ?_
  clear hK K
  go_wp2_with fail
  exact bodyPost_end (v := .tuple #[]) (by simp [results, Tryd.f38, go_sem]) rfl ⟨rfl, h1, (ho.mono (bs' := [c]) (by simp)).trans h2 (by simp)⟩
set_option maxHeartbeats 400000 in
theorem unsent1 (b c : Nat) (s : St) (rq : Array Value) (cl num : Int) (W : World) (hs : SB W b c s rq) (hc : Ch W c #[.agg rq]) (h : Rq rq cl num) :
    Calls Tryd.prog 38 #[.pointer (some ⟨b, 0, none⟩)] W (Unsent c rq W) := by
  obtain ⟨_, _, _, _, _, _, _, _, _, _, _, h48⟩ := hs.cells h.size
  obtain ⟨hr1, hr2⟩ := hs.req h.size
  go_enter Tryd.func38, Tryd.ntmps38
  go_wp2_with fail
  refine (own_any rq cl num _ h).mono ?_
  rintro e w1 ⟨rfl, ho⟩
  have hc1 := hc.keep ho (by simp)
  dsimp only
  repeat (first | with_reducible refine wp_send1 (id := 2) (x := .tmp 5) (y := .tmp 10) (v := .agg rq) ?_ ?_ ?_ ?_ zero58 hc1 (fun K hK => ?_) | go_values | go_skip | go_guarded | go_step | go_upon)
  · rfl
  · rfl
  · rfl
  · rfl
  go_simp
  refine hK _ _ ?_
  clear hK K
  go_wp2_with fail
  exact bodyPost_end (v := .tuple #[]) (by simp [results, Tryd.f38, go_sem]) rfl ⟨rfl, hc1, ho.mono (by simp)⟩

end Go.Proofs.YtlmkiekdkonofaaDoor
