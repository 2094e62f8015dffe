/-
  LeadAgrees: for every input it answers true and leaves its argument as it was; the table of trailing zeros that it reads is tied to the program's text (the tied card).
-/
import Derived.Test.YtlmkiekdkonofaaDoorCards
import Derived.Test.YtlmkiekdkonofaaDoorTie
import Derived.Test.YtlmkiekdkonofaaDoorKf
import Derived.ProofKit
import Derived.LaidMore
import Derived.OpenShut
import Derived.ChangeOld
import Derived.Deep.Slices
import Derived.Lib.LaidTab
import Derived.Stop.Joined
import Derived.SevenTiedAt
namespace Go.Proofs.YtlmkiekdkonofaaDoor.leadAgrees
open Go.ChangeShapes Go.WideShapes Go.ChangeAt Go.RowKit

theorem own : ownKnob Tryd.prog.godebug = none := by kernel_rfl
theorem laidOut : laidOutB Tryd.prog = true := by kernel_rfl
theorem g32 : Tryd.prog.globalNamed "math/bits.deBruijn32tab" = some 0 := by kernel_rfl
theorem g64 : Tryd.prog.globalNamed "math/bits.deBruijn64tab" = some 1 := by kernel_rfl
theorem t64 : (Tryd.prog.globals[1]?).map (·.type) = some 139 := by kernel_rfl

/-- What the row lists. -/
def listed : List (String × DataW Unit) := [("math/bits.deBruijn32tab", Rows.laid_math_bits_deBruijn32tab), ("math/bits.deBruijn64tab", Rows.laid_math_bits_deBruijn64tab)]

theorem door_met (os : Os) (args : Array Value) : laidMetH Tryd.prog listed ((World.doorLaid Tryd.prog 400 os).forCall (fun _ _ => 0) ⟨#[], args, []⟩).memory :=
  laidMetH_of_parts3 (fuel := 8) (laidMet_of_run' 8 (by kernel_rfl) (by kernel_rfl)) (by kernel_rfl) (by kernel_rfl)

/-- The 64 numbers. -/
def nums : List Int := [0, 1, 56, 2, 57, 49, 28, 3, 61, 58, 42, 50, 38, 29, 17, 4, 62, 47, 59, 36, 45, 43, 51, 22, 53, 39, 33, 30, 24, 18, 12, 5, 63, 55, 48, 27, 60, 41, 37, 16, 46, 35, 44, 21, 52, 32, 23, 11, 54, 26, 40, 15, 34, 20, 31, 10, 25, 14, 19, 9, 13, 8, 7, 6]

theorem nums_data : (Rows.laid_math_bits_deBruijn64tab : DataW Unit) = Lib.tabData .u8 nums := rfl

/-- WHAT THE CONDITION GIVES THE WALK. -/
theorem tab_of_laid {W : World} (h : laidMetH Tryd.prog listed W) : Tab W := by
  rw [MakeChecks.laidMetH_plain _ _ _ (by kernel_rfl)] at h
  obtain ⟨ps, ⟨g0, t0, cs0, f0, p0, q0, hg0, ht0, hv0, hd0, ⟨g1, t1, cs1, f1, p1, q1, hg1, ht1, hv1, hd1, _, _⟩, _⟩, _, _⟩ := h
  obtain rfl := Option.some.inj (g64.symm.trans hg1)
  obtain rfl := Option.some.inj (t64.symm.trans ht1)
  rw [nums_data] at hd1
  have hcs := Lib.cells_of_tab Tryd.underlying139 Tryd.underlying5 (by kernel_rfl) (by kernel_rfl) hd1
  have hall : ∀ i, i < 64 → 0 ≤ nums.getD i 0 ∧ nums.getD i 0 ≤ 255 := by decide
  intro i hi
  refine ⟨nums.getD i 0, ?_, hall i hi⟩
  have h1 := World.var?_cell hg1 hv1 i
  rw [h1]
  have e : cs1[i]? = cs1.toList[i]? := by simp
  rw [e, hcs]
  have hl : i < nums.length := hi
  simp [List.getD, hl]

theorem len3 {α : Type} {l : List α} (h : l.length = 3) : ∃ a b c, l = [a, b, c] := by
  match l, h with
  | [a, b, c], _ => exact ⟨a, b, c, rfl⟩

/-- One row that is read: three numbers. -/
theorem row_of {H : Type} {enc : TypeId × Value → H} {W : World} {k : Nat} {a : Addr} {cs' : List Value} {y : DataW H × List MemPlace} (h1 : W.cells? 0 a 3 = some cs') (h2 : DataW.trod enc Tryd.prog W 0 (fun _ => true) true k 41 cs' = some y) :
    ∃ x y z, W.cell? (a.add 0) = some (.int .i64 x) ∧ W.cell? (a.add 1) = some (.int .i64 y) ∧ W.cell? (a.add 2) = some (.int .i64 z) := by
  have c3 : Tryd.prog.cellsOf 3 = 1 := by kernel_rfl
  obtain ⟨_, hlen, hcell⟩ := World.cells?_some h1
  obtain ⟨xs, m', _, _, _, hxs, hel⟩ := DataW.trod_array Tryd.underlying41 h2
  obtain ⟨v0, v1, v2, rfl⟩ := len3 hlen
  obtain ⟨x0, x1, x2, rfl⟩ := len3 hxs
  have e0 := hel 0 (by decide)
  have e1 := hel 1 (by decide)
  have e2 := hel 2 (by decide)
  simp only [c3, Nat.mul_one, List.drop_zero, List.drop_succ_cons, List.take_succ_cons, List.take_zero, List.getElem?_cons_zero, List.getElem?_cons_succ] at e0 e1 e2
  obtain ⟨y0, z0, _, _⟩ := DataW.trod_int Tryd.underlying3 e0
  obtain ⟨y1, z1, _, _⟩ := DataW.trod_int Tryd.underlying3 e1
  obtain ⟨y2, z2, _, _⟩ := DataW.trod_int Tryd.underlying3 e2
  simp only [List.cons.injEq, and_true] at z0 z1 z2
  subst z0 z1 z2
  exact ⟨y0, y1, y2, hcell 0 (by decide), hcell 1 (by decide), hcell 2 (by decide)⟩

theorem spot_none {W : World} {b off : Nat} {sp : Option Nat} {v : Value} (h : W.cell? ⟨b, off, sp⟩ = some v) : sp = none := by
  cases sp with
  | none => rfl
  | some s => simp only [World.cell?] at h; split at h <;> simp at h

theorem add_lit (b off i : Nat) : (Addr.mk b off none).add i = ⟨b, off + i, none⟩ := by
  unfold Addr.add
  split
  · rename_i e; rw [e]; rfl
  · rfl

/-- What the reading of the rows gives the walk. -/
theorem rows_of {H : Type} {enc : TypeId × Value → H} {W : World} {fuel : Nat} {a : Option Addr} {n c : Nat} {x : DataW H × List MemPlace} (h : DataW.trod enc Tryd.prog W 0 (fun _ => true) true fuel 22 [.slice a n c] = some x) : RowsAt W a n ∧ n ≤ maxLen := by
  rcases Deep.open_slice Tryd.underlying22 h with ⟨hcs, _⟩ | ⟨a', len, cap, m, k, D, Pl, hcs, _, hl, hm, hmm, _, hx⟩
  · simp at hcs
    obtain ⟨rfl, rfl, rfl⟩ := hcs
    exact ⟨fun i hi => absurd hi (Nat.not_lt_zero i), Nat.zero_le maxLen⟩
  · simp at hcs
    obtain ⟨rfl, rfl, rfl⟩ := hcs
    have c41 : Tryd.prog.cellsOf 41 = 3 := by kernel_rfl
    refine ⟨fun i hi => ?_, Nat.le_trans hl hm⟩
    have hmc : m = c := by simpa using hmm
    have get : ∀ i, i < n → ∃ x y z, W.cell? ((a'.add (i * 3)).add 0) = some (.int .i64 x) ∧ W.cell? ((a'.add (i * 3)).add 1) = some (.int .i64 y) ∧ W.cell? ((a'.add (i * 3)).add 2) = some (.int .i64 z) := by
      intro i hi
      obtain ⟨cs', h1, h2⟩ := hx i (by omega)
      rw [c41] at h1
      exact row_of h1 h2
    obtain ⟨b, off, sp⟩ := a'
    obtain ⟨_, _, _, s0, _⟩ := get 0 (by omega)
    obtain rfl : sp = none := spot_none (W := W) (b := b) (off := off) s0
    obtain ⟨x, y, z, k0, k1, k2⟩ := get i hi
    simp only [add_lit, Nat.add_zero] at k0 k1 k2
    exact ⟨b, off, x, y, z, rfl, World.block_lt_of_cell? _ _ k0, k0, k1, k2⟩

set_option maxRecDepth 100000 in
theorem lifted (os : Os) (started : os.Started) (H : Type) (enc : TypeId × Value → H) :
    ReturnsInHanded {} Tryd.checked os 3 .any (fun w args => (Rows.leadAgreesSpec.pre enc Tryd.prog Tryd.f3 [] false w args ∧ laidMetH Tryd.prog listed w) ∧ sizedMet enc Tryd.prog Tryd.f3 (OpenSpec.ofChange Rows.leadAgreesSpec) false w args)
      (Rows.leadAgreesSpec.post enc Tryd.prog Tryd.f3 false true false false) := by
  refine returnsInHanded_of_change_and (C := Tryd.checked) (X := fun w _ => laidMetH Tryd.prog listed w) (fun _ _ _ hh h => h.of_heap hh) own started (by kernel_rfl) Tryd.func3
    (ChangeSpec.witness_shaped (enc := enc) (C := Tryd.checked) (os := os) (X := fun w _ => laidMetH Tryd.prog listed w) false (World.doorLaid Tryd.prog 400 os) #[.slice none 0 0] 8 rfl (World.shaped_of_RefB (by kernel_rfl) (by kernel_rfl)) (by kernel_rfl) (by kernel_rfl) (by kernel_rfl) (door_met os _)) ?_
  intro W base args ds gs before hval0 hW _ _ hL _
  have hval : ∀ (j : Nat) t v, Tryd.f3.params[j]? = some t → args[j]? = some v → Value.okWide Tryd.prog W .any base t v := hval0
  have hW' := hW
  obtain ⟨p, q, hA0, hV, rfl, hfz, hnd⟩ := hW
  have hA : DataW.TrodAll enc Tryd.prog W 0 (fun _ => true) true Tryd.f3.params.toList args.toList ds p := hA0
  rw [Tryd.params3] at hA hval
  obtain ⟨v0, vs0, d0, ds0, p0, q0, hargs, rfl, rfl, h0, r0⟩ := trodAll_cons hA
  obtain ⟨rfl, rfl, rfl⟩ := trodAll_nil r0
  obtain rfl : args = #[v0] := by cases args; simp_all
  obtain ⟨rfl, rfl⟩ := trodVars_none hV
  obtain ⟨a0, len0, cap0, rfl⟩ := okWide_slice Tryd.underlying22 (hval 0 22 v0 rfl rfl)
  have k0 := h0
  have lt0 : ∀ x ∈ p0, x.block < W.heap.size := by obtain ⟨m, hm⟩ := k0; exact DataW.trod_lt m _ _ _ hm
  obtain ⟨hrows, hlen⟩ : RowsAt W a0 len0 ∧ len0 ≤ maxLen := by
    obtain ⟨fuel, hf⟩ := h0
    simp only [Value.cells] at hf
    exact rows_of hf
  clear hA0 hval0
  refine (lead_any a0 len0 cap0 W (tab_of_laid hL) hrows hlen).mono fun e W' ⟨he, bel⟩ => ?_
  subst he
  exact ⟨_, rfl, _, _, _, [], _, [], hW', trodAll_mk1 (shut_bool Tryd.underlying4 _), (trodAll_cons_mk (Below.trod laidOut (by kernel_rfl) (of_decide_eq_true (by kernel_rfl)) k0 bel lt0) trodAll_mk0), rfl, bel.frame _, fun h => by cases h⟩

theorem over : Rows.LeadAgreesSaid :=
  OpenClaim.holds_of_wide 3 Tryd.f3 rfl rfl rfl rfl rfl rfl rfl ⟨rfl, rfl, rfl, rfl, rfl⟩ rfl rfl rfl rfl rfl (by kernel_rfl) Tryd.func3 (by kernel_rfl)
    (of_decide_eq_true (by kernel_rfl)) (by unfold Func.isWrapper; first | (rw [if_pos (by decide +kernel)]; kernel_rfl) | (rw [if_neg (by decide +kernel)]; exact ⟨rfl, rfl⟩))
    (fun os started H enc _ => lifted os started H enc)

end Go.Proofs.YtlmkiekdkonofaaDoor.leadAgrees
namespace Go.Proofs.YtlmkiekdkonofaaDoor
theorem LeadAgreesCard : Rows.LeadAgreesCardSaid :=
  Claim7.holds_tied_plain_at .later [] [.data, .data] true (true, "7da8c0611d0b652d0f23f7e9e311c6710216c0ae94b7675e1fd2fa8ecc6176ea") true
    leadAgrees.over (fun _ h => by cases h) (by kernel_rfl) (fun _ h => by cases h) leadAgrees_row_tie rfl ⟨rfl, rfl⟩ (by kernel_rfl) rfl
    (fun f fn hf hfn => by
      obtain rfl : f = 3 := Option.some.inj ((show Tryd.prog.funcNamed "sealchain/sealchainlaw16.LeadAgrees" = some 3 by kernel_rfl).symm.trans hf) |>.symm
      obtain rfl : fn = Tryd.f3 := (Option.some.inj (Tryd.func3.symm.trans hfn)).symm
      exact ⟨by kernel_rfl, fun j t ht => by
        rw [Tryd.params3] at ht
        have hm : t ∈ [22] := by simpa using Array.mem_of_getElem? ht
        have hall : ([22].all fun u => !Tryd.prog.wantsStandIn u) = true := by kernel_rfl
        exact (show Tryd.prog.wantsStandIn t = false by simpa using List.all_eq_true.1 hall t hm)⟩)
    (by kernel_rfl)
#print axioms LeadAgreesCard
end Go.Proofs.YtlmkiekdkonofaaDoor
