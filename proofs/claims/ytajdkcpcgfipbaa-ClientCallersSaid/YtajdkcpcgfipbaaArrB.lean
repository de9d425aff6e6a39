/- make and copy of whole slices of structs. No program in sight. -/
import Derived.Test.YtajdkcpcgfipbaaMap
import Derived.Laws.MakeOwn
import Derived.Laws.CopyOwn
namespace Go.Wm
open Go.RowKit

theorem run_copy_arr {P : Program} (w : World) (dT ty e size : Nat) (hu : P.underlying dT = some (.slice e)) (hi : (P.info? e).map (·.size) = some size) (g n dc : Nat) (cur : Array Value) (hg : w.heap[g]? = some (.cells cur e (0, 0))) (hcur : cur.size = n * size)
    (A : Option Addr) (c : Nat) (cs : List Value) (h : Arr w e size A n c cs) (h1 : ∀ v ∈ cs, v.oneCell' = true) :
    (Builtin.copy_ #[dT, dT] ty #[.slice (some ⟨g, 0, none⟩) n dc, .slice A n c]).run P w = .ok (goInt n) (w.setRow g cs.toArray) := by
  have hst := run_storeCells_at P g 0 e cs 0 cur w hg (by rw [hcur, h.1]; omega) h1
  simp only [Nat.add_zero, Nat.zero_add] at hst
  have e1 : cur.toList.take 0 ++ cs ++ cur.toList.drop cs.length = cs := by
    rw [List.drop_of_length_le (by rw [Array.length_toList, hcur, h.1]; omega)]; simp
  rw [e1] at hst
  have hmin : Nat.min n n = n := Nat.min_self n
  cases hq : P.info? e with
  | none => simp [hq] at hi
  | some i =>
    have hsz : i.size = size := by simpa [hq] using hi
    rcases h.cells with ⟨rfl, rfl, rfl, rfl⟩ | ⟨b, off, rfl, hb, hc⟩
    · simp [Builtin.copy_, run_underlying hu, Builtin.lenOf, Builtin.firstCells, sizeOf, typeInfo, hq]
      have hst' : (storeCells ⟨g, 0, none⟩ []).run P w = .ok () (w.setRow g #[]) := by simpa using hst
      rw [hst']; rfl
    · have hl := run_loadCells_list (P := P) w ⟨b, off, none⟩ cs (fun j v hv => by rw [add_ofs]; exact (hc j v hv).1)
      rw [h.1] at hl
      simp [Builtin.copy_, run_underlying hu, Builtin.lenOf, Builtin.firstCells, sizeOf, typeInfo, hq, hsz, hmin, hl, hst]
theorem wpList_copy_arr {P : Program} {w : World} {ops : Array Oper} {rest : List Oper} {o : Oper} {a : Act} {Q : Exit → Act → World → Prop} (hgd : o.guard = none) (d s : Operand) (dT : TypeId)
    (ho : o.op = .call { callee := .builtin .copy, args := #[d, s], argTypes := #[dT, dT] }) (e size : Nat) (hu : P.underlying dT = some (.slice e)) (hi : (P.info? e).map (·.size) = some size)
    (g n dc : Nat) (cur : Array Value) (hd : a.eval d = .slice (some ⟨g, 0, none⟩) n dc) (hg : w.heap[g]? = some (.cells cur e (0, 0))) (hcur : cur.size = n * size)
    (A : Option Addr) (c : Nat) (cs : List Value) (hs : a.eval s = .slice A n c) (h : Arr w e size A n c cs) (h1 : ∀ v ∈ cs, v.oneCell' = true)
    (hK : ∀ w', w'.heap[g]? = some (.cells cs.toArray e (0, 0)) → Kp (fun k => k = g) w w' → wpList P ops Q rest (a.put o.dst (goInt n)) w') : wpList P ops Q (o :: rest) a w := by
  refine wpList_plain hgd fun K hK' => ?_
  have hrun := run_copy_arr (P := P) w dT o.type e size hu hi g n dc cur hg hcur A c cs h h1
  unfold Oper.wp execOp
  simp only [ho, resolve, invoke, builtin, Sem.run_bind, Sem.run_pure, Result.andThen_ok, List.map_toArray, List.map_cons, List.map_nil, hd, hs, hrun]
  exact hK' _ _ (hK _ (setRow_heap w g cur _ e _ hg) ⟨rfl, rfl, rfl, by simp, fun k _ hk => setRow_other w g k _ hk⟩)
theorem Arr.of_block {w : World} {e size n g : Nat} {cs : List Value} (hg : w.heap[g]? = some (.cells cs.toArray e (0, 0))) (hl : cs.length = n * size) (hn : n ≤ maxLen) : Arr w e size (some ⟨g, 0, none⟩) n n cs :=
  ⟨hl, Nat.le_refl _, hn, .inr ⟨g, 0, _, rfl, hg, by simp; omega, by simp; rw [List.take_of_length_le (by omega)]⟩⟩
end Go.Wm
