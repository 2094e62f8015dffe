/-
  LISTS OF PACKETS: a list of one, made; what lies in a row of packets.
-/
import Derived.Test.YtlmkiekdkonofaaDoorSm
import Derived.Test.YtlmkiekdkonofaaDoorSn
import Derived.Deep.AppendLies
namespace Go.Proofs.YtlmkiekdkonofaaDoor
open Go.RowKit Go.Conc

theorem foldl_over0 : ∀ (l : List Value) (k : Nat) (C : Array Value), (l.zipIdx k).foldl (fun cs x => cs.setIfInBounds x.2 x.1) C = over C k l
  | [], _, _ => rfl
  | v :: r, k, C => by
    rw [List.zipIdx_cons, List.foldl_cons, over]
    exact foldl_over0 r (k + 1) _
theorem fold_all (pk Z : Array Value) (hp : pk.size = 87) (hZ : Z.size = 87) : Array.foldl (fun cs x => cs.setIfInBounds x.snd x.fst) Z pk.zipIdx 0 87 = pk := by
  have h : pk.zipIdx.size = 87 := by simpa using hp
  have h2 : Array.foldl (fun cs x => cs.setIfInBounds x.snd x.fst) Z pk.zipIdx = pk := by
    rw [← Array.foldl_toList, Array.toList_zipIdx, foldl_over0]
    exact over_all Z pk (by rw [hZ, hp])
  rw [h] at h2
  exact h2
theorem bs65 (pk : Array Value) (hp : pk.size = 87) (w : World) : (Instr.buildSlice 65 1 #[(0, .agg pk)]).run Tryd.prog w = .ok (.slice (some ⟨w.heap.size, 0, none⟩) 1 1) (w.alloc (.cells pk 61)) := by
  go_simp
  congr 2
  exact fold_all pk _ hp rfl
theorem wpList_bs {x : Operand} {dst : Option Tmp} {t : TypeId} {pos : String} {aft : Array Edge} {ops : Array Oper} {rest : List Oper} {Q : Exit → Act → World → Prop} {a : Act} {w : World} {pk : Array Value}
    (hx : a.eval x = .agg pk) (hp : pk.size = 87) (h : ∀ K : Act → World → Prop, (∀ a w, wpList Tryd.prog ops Q rest a w → K a w) → K (a.put dst (.slice (some ⟨w.heap.size, 0, none⟩) 1 1)) (w.alloc (.cells pk 61))) :
    wpList Tryd.prog ops Q ({ dst := dst, op := .buildSlice 65 1 #[(0, x)], type := t, pos := pos, after := aft, guard := none } :: rest) a w :=
  wpList_plain rfl fun K hK => by
    have hb := bs65 pk hp w
    unfold Oper.wp execOp
    simp only [List.map_toArray, List.map_cons, List.map_nil, hx, Sem.run_bind, hb, Result.andThen_ok]
    exact h K hK
theorem info61p : (Tryd.prog.info? 61).map (fun i => (i.zero, i.size, i.bytes)) = some (some (.agg Tryd.zeroCells61), 87, 328) := by kernel_rfl
theorem pkrow_nil (w : World) (B : Nat) : w.ownsRow B 61 87 (.slice none 0 0) 0 [] := ⟨rfl, .inl ⟨rfl, rfl⟩⟩
theorem pk_of_row {w : World} {B g n cap : Nat} {xs : List Value} (h : w.ownsRow B 61 87 (.slice (some ⟨g, 0, none⟩) n cap) n xs) (i : Nat) (kind to : Int) (h0 : xs[87 * i]? = some (.int .i64 kind)) (h2 : xs[87 * i + 2]? = some (.int .i64 to)) : Pk w g i kind to := by
  obtain ⟨h1, h3⟩ := h
  rcases h3 with ⟨h3, _⟩ | ⟨g', cap', cur, hv, _, hh, a, b, cc, d⟩
  · cases h3
  · cases hv
    have hget : ∀ j u, xs[j]? = some u → cur[j]? = some u := fun j u hj => by
      have hlt : j < xs.length := (List.getElem?_eq_some_iff.1 hj).1
      have e : (cur.toList.take (n * 87))[j]? = xs[j]? := by rw [d]
      rw [List.getElem?_take_of_lt (by omega), hj] at e
      simpa using e
    exact ⟨by rw [cell_blk hh]; exact hget _ _ h0, by rw [cell_blk hh]; exact hget _ _ h2⟩
end Go.Proofs.YtlmkiekdkonofaaDoor
