/- The loops over words of package hash: the closures of hash.words hand the words of a string or of bytes to any loop body. -/
import Derived.RangeFuncNested
import Derived.RangeFuncBound
import Derived.RangeFuncCalls
import Derived.RangeFuncLeaves
import Derived.Shelf.Abstract
import Derived.Shelf.RegionOpen
import Derived.WalkKit
import Derived.OwnWalkIn
import Derived.TacticsInMore
import Derived.LoopNIn
import Derived.LoopIn
import Derived.Lib.Hide
import Derived.Test.YtajdkcpcgfipbaaRows
import Derived.Test.YtajdkcpcgfipbaaPure
import Derived.Test.YtajdkcpcgfipbaaMem
namespace Go.Proofs.Ytajdkcpcgfipbaa
open Go.RowKit Go.Shelf Go.Wm
attribute [local go_sem] Oper.semAt_some


/-- what a round of a loop over words keeps: all that lay below n₀, and the box of what is ranged over -/
def KB (n₀ Bs : Nat) (W W' : World) : Prop := Below n₀ W W' ∧ W'.heap[Bs]? = W.heap[Bs]?
theorem KB.refl (n₀ Bs : Nat) (W : World) : KB n₀ Bs W W := ⟨Below.refl _ _, rfl⟩
theorem KB.trans {n₀ Bs : Nat} {A B C : World} (h : KB n₀ Bs A B) (k : KB n₀ Bs B C) : KB n₀ Bs A C := ⟨h.1.trans k.1, k.2.trans h.2⟩
theorem KB.put {n₀ Bs : Nat} {w : World} (hn : n₀ ≤ w.heap.size) (hb : Bs < w.heap.size) (W : World) (l : Nat) (o o' : Obj) (hl : w.heap.size ≤ l) (h : W.heap[l]? = some o) (h1 : o.isCells = false) (h2 : o.isWalk = false) : KB n₀ Bs W (W.putObj l o') :=
  ⟨belowK_b hn W l o o' hl h h1 h2, World.putObj_heap_other (by omega)⟩
theorem KB.box {n₀ Bs : Nat} {W W' : World} (h : KB n₀ Bs W W') {v : Value} (hc : W.cell? ⟨Bs, 0, none⟩ = some v) : W'.cell? ⟨Bs, 0, none⟩ = some v := (World.cell?_of_block (w := W) h.2).trans hc

/-- what has come after k rounds -/
def upto (xs : List Int) (k : Nat) : List Int := (List.range k).map fun k => wordAt xs (8 * k)
theorem upto_succ (xs : List Int) (k : Nat) : upto xs (k + 1) = upto xs k ++ [wordAt xs (8 * k)] := by simp [upto, List.range_succ]
theorem upto_length (xs : List Int) (k : Nat) : (upto xs k).length = k := by simp [upto]
theorem upto_prefix (xs : List Int) (k : Nat) (h : k ≤ (xs.length + 7) / 8) : upto xs k <+: wordsI xs := by
  unfold upto wordsI
  obtain ⟨d, hd⟩ := Nat.exists_eq_add_of_le h
  rw [hd, List.range_add, List.map_append]
  exact List.prefix_append _ _

set_option maxRecDepth 100000 in
set_option maxHeartbeats 2000000 in
theorem words_s1_in (F : Fence) (n : Nat) (hf : F.fn 109) (hro : F.round = none) (hn : 1 ≤ n) (l Bs n₀ : Nat) (s : ByteArray) (hs : s.size ≤ 140737488351232) (J Jx : List Int → World → Prop)
    (hY : ∀ pre x W, J pre W → pre.length < (s.size + 7) / 8 → YieldAt F (n - 1) Try.prog l #[.int .u64 x] W fun e W' =>
      (e = .returned (.bool true) ∧ J (pre ++ [x]) W' ∧ KB n₀ Bs W W') ∨ (e = .returned (.bool false) ∧ Jx (pre ++ [x]) W'))
    (W : World) (hBs : W.cell? ⟨Bs, 0, none⟩ = some (.string s)) (h0 : J [] W) :
    CallsIn F n Try.prog 109 #[.func (.yield l) #[] #[], .pointer (some ⟨Bs, 0, none⟩)] W fun e W' => (∃ v, e = .returned v) ∧
      ((∃ ys, ys = wordsI (strI s) ∧ J ys W') ∨ (∃ pre, pre <+: wordsI (strI s) ∧ Jx pre W')) := by
  refine callsIn_of_wp Try.func109 rfl hf ?_ hro
  simp only [Try.ntmps109, List.size_toArray, List.length_cons, List.length_nil, Nat.reduceAdd, Nat.reduceSub, Array.replicate_succ, Array.replicate_zero, List.push_toArray, List.append_toArray, List.nil_append, List.cons_append]
  gi_wp2
  gi_loopw [3] (fun i wr => ∃ k : Nat, i = .int .i64 (8 * (k : Int)) ∧ k ≤ (s.size + 7) / 8 ∧ J (upto (strI s) k) wr ∧ KB n₀ Bs W wr)
    (fun i _ => s.size + 8 - (intOf i).toNat)
  case atStart => exact ⟨0, rfl, Nat.zero_le _, h0, KB.refl _ _ _⟩
  case round =>
    obtain ⟨k, rfl, hk, hJs, hnx⟩ := hrel
    have hcx := hnx.box hBs
    by_cases hlt : 8 * k < s.size
    · have hY' := Lib.hid hY
      clear hY
      have hd : decide (8 * (k : Int) < (s.size : Int)) = true := by simp; omega
      gi_wp2
      gi_loop [4, 5] (fun a i => ∃ t : Nat, i = .int .i64 (8 * (k : Int) + (t : Int)) ∧ t ≤ 8 ∧ 8 * k + t ≤ s.size ∧ a = .int .u64 (wordLE (((strI s).drop (8 * k)).take t)))
        (fun _ i => s.size + 8 - (intOf i).toNat)
      case atStart => exact ⟨0, by simp, by omega, by omega, by simp [wordLE]⟩
      case round =>
        obtain ⟨t, rfl, ht, ht2, rfl⟩ := hrel
        by_cases hlt2 : t < 8 ∧ 8 * k + t < s.size
        · obtain ⟨h1, h2⟩ := hlt2
          have hst := Lib.hid (word_step (strI s) (strI_byt s) (8 * k) t h1 (by rw [strI_length]; exact h2) _ (strI_get s (8 * k + t) h2))
          gi_wp2
          all_goals
            go_round
            case rel => exact ⟨t + 1, by go_num, by omega, by omega, by rw [← hst.out]⟩
            case measure => simp [intOf]; omega
        · have hfull := Lib.hid (wordAt_full (strI s) k t (by rw [strI_length]; omega) ht)
          obtain ⟨fn, tmps, assign, body, hy, hR⟩ := hY'.out _ (wordLE (((strI s).drop (8 * k)).take t)) wr hJs (by rw [upto_length]; omega)
          gi_wp2
          all_goals
            refine hR.mono ?_
            rintro e W3 (⟨rfl, hJ3, hk3⟩ | ⟨rfl, hJx3⟩)
            · gi_wp2
              go_roundw
              case rel => exact ⟨k + 1, by go_num, by omega, by rw [upto_succ, ← hfull.out]; exact hJ3, hnx.trans hk3⟩
              case measure => simp [intOf]; omega
            · gi_wp2
              refine bodyPost_ret (results_none rfl _ _ _) rfl ?_
              exact ⟨⟨_, rfl⟩, .inr ⟨upto (strI s) (k + 1), upto_prefix _ _ (by rw [strI_length]; omega), by rw [upto_succ, ← hfull.out]; exact hJx3⟩⟩
    · have e : k = ((strI s).length + 7) / 8 := by rw [strI_length]; omega
      have hJs' := Lib.hid hJs
      have e' := Lib.hid e
      clear hJs e
      gi_wp2
      go_end0
      exact ⟨⟨_, rfl⟩, .inl ⟨_, rfl, by have := hJs'.out; rw [e'.out] at this; exact this⟩⟩
set_option maxRecDepth 100000 in
set_option maxHeartbeats 2000000 in
theorem words_b1_in (F : Fence) (n : Nat) (hf : F.fn 110) (hro : F.round = none) (hn : 1 ≤ n) (l Bs n₀ : Nat) (b off c : Nat) (xs : List Int) (hx : Byt xs) (hs : xs.length ≤ 140737488351232) (hb : b < n₀) (J Jx : List Int → World → Prop)
    (hY : ∀ pre x W, J pre W → pre.length < (xs.length + 7) / 8 → YieldAt F (n - 1) Try.prog l #[.int .u64 x] W fun e W' =>
      (e = .returned (.bool true) ∧ J (pre ++ [x]) W' ∧ KB n₀ Bs W W') ∨ (e = .returned (.bool false) ∧ Jx (pre ++ [x]) W'))
    (W : World) (hBs : W.cell? ⟨Bs, 0, none⟩ = some (.slice (some ⟨b, off, none⟩) xs.length c)) (hc : ∀ j, j < xs.length → W.cell? ⟨b, off + j, none⟩ = some (.int .u8 (xs[j]?.getD 0))) (h0 : J [] W) :
    CallsIn F n Try.prog 110 #[.func (.yield l) #[] #[], .pointer (some ⟨Bs, 0, none⟩)] W fun e W' => (∃ v, e = .returned v) ∧
      ((∃ ys, ys = wordsI xs ∧ J ys W') ∨ (∃ pre, pre <+: wordsI xs ∧ Jx pre W')) := by
  refine callsIn_of_wp Try.func110 rfl hf ?_ hro
  simp only [Try.ntmps110, List.size_toArray, List.length_cons, List.length_nil, Nat.reduceAdd, Nat.reduceSub, Array.replicate_succ, Array.replicate_zero, List.push_toArray, List.append_toArray, List.nil_append, List.cons_append]
  gi_wp2
  gi_loopw [3] (fun i wr => ∃ k : Nat, i = .int .i64 (8 * (k : Int)) ∧ k ≤ (xs.length + 7) / 8 ∧ J (upto xs k) wr ∧ KB n₀ Bs W wr)
    (fun i _ => xs.length + 8 - (intOf i).toNat)
  case atStart => exact ⟨0, rfl, Nat.zero_le _, h0, KB.refl _ _ _⟩
  case round =>
    obtain ⟨k, rfl, hk, hJs, hnx⟩ := hrel
    have hcx := hnx.box hBs
    by_cases hlt : 8 * k < xs.length
    · have hY' := Lib.hid hY
      clear hY
      have hd : decide (8 * (k : Int) < (xs.length : Int)) = true := by simp; omega
      gi_wp2
      gi_loop [4, 5] (fun a i => ∃ t : Nat, i = .int .i64 (8 * (k : Int) + (t : Int)) ∧ t ≤ 8 ∧ 8 * k + t ≤ xs.length ∧ a = .int .u64 (wordLE ((xs.drop (8 * k)).take t)))
        (fun _ i => xs.length + 8 - (intOf i).toNat)
      case atStart => exact ⟨0, by simp, by omega, by omega, by simp [wordLE]⟩
      case round =>
        obtain ⟨t, rfl, ht, ht2, rfl⟩ := hrel
        by_cases hlt2 : t < 8 ∧ 8 * k + t < xs.length
        · obtain ⟨h1, h2⟩ := hlt2
          have hst := Lib.hid (word_step xs hx (8 * k) t h1 (h2) _ rfl)
          have hcell := (hnx.1.cell (p := ⟨b, off + (8 * k + t), none⟩) hb).trans (hc _ h2)
          have hbt := hx.get (8 * k + t)
          gi_wp2
          all_goals
            go_round
            case rel => exact ⟨t + 1, by go_num, by omega, by omega, by rw [← hst.out]; simp [h2]⟩
            case measure => simp [intOf]; omega
        · have hfull := Lib.hid (wordAt_full xs k t (by omega) ht)
          obtain ⟨fn, tmps, assign, body, hy, hR⟩ := hY'.out _ (wordLE ((xs.drop (8 * k)).take t)) wr hJs (by rw [upto_length]; omega)
          gi_wp2
          all_goals
            refine hR.mono ?_
            rintro e W3 (⟨rfl, hJ3, hk3⟩ | ⟨rfl, hJx3⟩)
            · gi_wp2
              go_roundw
              case rel => exact ⟨k + 1, by go_num, by omega, by rw [upto_succ, ← hfull.out]; exact hJ3, hnx.trans hk3⟩
              case measure => simp [intOf]; omega
            · gi_wp2
              refine bodyPost_ret (results_none rfl _ _ _) rfl ?_
              exact ⟨⟨_, rfl⟩, .inr ⟨upto xs (k + 1), upto_prefix _ _ (by omega), by rw [upto_succ, ← hfull.out]; exact hJx3⟩⟩
    · have e : k = (xs.length + 7) / 8 := by omega
      have hJs' := Lib.hid hJs
      have e' := Lib.hid e
      clear hJs e
      gi_wp2
      go_end0
      exact ⟨⟨_, rfl⟩, .inl ⟨_, rfl, by have := hJs'.out; rw [e'.out] at this; exact this⟩⟩

set_option maxRecDepth 100000 in
set_option maxHeartbeats 1000000 in
/-- .. at a slice of no element: no round. -/
theorem words_b1_nil_in (F : Fence) (n : Nat) (hf : F.fn 110) (hro : F.round = none) (l Bs : Nat) (A : Option Addr) (c : Nat) (J : List Int → World → Prop) (W : World) (hBs : W.cell? ⟨Bs, 0, none⟩ = some (.slice A 0 c)) (h0 : J [] W) :
    CallsIn F n Try.prog 110 #[.func (.yield l) #[] #[], .pointer (some ⟨Bs, 0, none⟩)] W fun e W' => (∃ v, e = .returned v) ∧ J [] W' := by
  refine callsIn_of_wp Try.func110 rfl hf ?_ hro
  simp only [Try.ntmps110, List.size_toArray, List.length_cons, List.length_nil, Nat.reduceAdd, Nat.reduceSub, Array.replicate_succ, Array.replicate_zero, List.push_toArray, List.append_toArray, List.nil_append, List.cons_append]
  gi_wp2
  gi_loopw [3] (fun i wr => i = .int .i64 0 ∧ J [] wr ∧ wr.cell? ⟨Bs, 0, none⟩ = some (.slice A 0 c)) (fun _ _ => 0)
  case atStart => exact ⟨rfl, h0, hBs⟩
  case round =>
    obtain ⟨rfl, hJs, hbs⟩ := hrel
    gi_wp2
    go_end0
    exact ⟨⟨_, rfl⟩, hJs⟩

set_option maxHeartbeats 1000000 in
theorem words_s_in (F : Fence) (n : Nat) (hf : F.fn 75) (hro : F.round = none) (s : ByteArray) (w : World) :
    CallsIn F n Try.prog 75 #[.string s] w fun e w' => e = .returned (.func (.func 109) #[] #[.pointer (some ⟨w.heap.size, 0, none⟩)]) ∧ w' = w.alloc (.cells #[.string s] 9) := by
  refine callsIn_of_wp Try.func75 rfl hf ?_ hro
  simp only [Try.ntmps75, List.size_toArray, List.length_cons, List.length_nil, Nat.reduceAdd, Nat.reduceSub, Array.replicate_succ, Array.replicate_zero, List.push_toArray, List.append_toArray, List.nil_append, List.cons_append]
  gi_wp2
  go_ret
  exact ⟨rfl, rfl⟩

set_option maxHeartbeats 1000000 in
theorem words_b_in (F : Fence) (n : Nat) (hf : F.fn 77) (hro : F.round = none) (A : Option Addr) (l c : Nat) (w : World) :
    CallsIn F n Try.prog 77 #[.slice A l c] w fun e w' => e = .returned (.func (.func 110) #[] #[.pointer (some ⟨w.heap.size, 0, none⟩)]) ∧ w' = w.alloc (.cells #[.slice A l c] 23) := by
  refine callsIn_of_wp Try.func77 rfl hf ?_ hro
  simp only [Try.ntmps77, List.size_toArray, List.length_cons, List.length_nil, Nat.reduceAdd, Nat.reduceSub, Array.replicate_succ, Array.replicate_zero, List.push_toArray, List.append_toArray, List.nil_append, List.cons_append]
  gi_wp2
  go_ret
  exact ⟨rfl, rfl⟩

/-- the words of a string, handed to a loop body -/
theorem words_s_stops (F : Fence) (n : Nat) (hf : F.fn 109) (hro : F.round = none) (hn : 1 ≤ n) (Bs n₀ : Nat) (s : ByteArray) (hs : s.size ≤ 140737488351232) (w : World) (hBs : Bs < w.heap.size)
    (hc : w.cell? ⟨Bs, 0, none⟩ = some (.string s)) :
    SeqStopsK F n Try.prog 109 #[.pointer (some ⟨Bs, 0, none⟩)] (fun x : Int => #[Value.int .u64 x]) (KB n₀ Bs) (fun ys => ys = wordsI (strI s)) (fun pre => pre <+: wordsI (strI s)) ((s.size + 7) / 8) w := fun l J Jx W hW _ _ hY h0 =>
  words_s1_in F n hf hro hn l Bs n₀ s hs J Jx hY W ((hW.cell (p := ⟨Bs, 0, none⟩) hBs).trans hc) h0

/-- the words of bytes, handed to a loop body -/
theorem words_b_stops (F : Fence) (n : Nat) (hf : F.fn 110) (hro : F.round = none) (hn : 1 ≤ n) (Bs n₀ : Nat) (A : Option Addr) (c : Nat) (xs : List Int) (hx : Byt xs) (hs : xs.length ≤ 140737488351232) (w0 w : World) (hBs : Bs < w.heap.size) (hn₀ : n₀ = w0.heap.size) (hB0 : Below n₀ w0 w)
    (hc : w.cell? ⟨Bs, 0, none⟩ = some (.slice A xs.length c)) (hr : Rd .u8 w0 A xs) :
    SeqStopsK F n Try.prog 110 #[.pointer (some ⟨Bs, 0, none⟩)] (fun x : Int => #[Value.int .u64 x]) (KB n₀ Bs) (fun ys => ys = wordsI xs) (fun pre => pre <+: wordsI xs) ((xs.length + 7) / 8) w := fun l J Jx W hW _ _ hY h0 => by
  have hc' := (hW.cell (p := ⟨Bs, 0, none⟩) hBs).trans hc
  rcases hr with rfl | ⟨b, off, rfl, hb, hcs⟩
  · exact (words_b1_nil_in F n hf hro l Bs A c J W hc' h0).mono fun e W' ⟨he, hj⟩ => ⟨he, .inl ⟨_, by simp [wordsI], hj⟩⟩
  · subst hn₀
    exact words_b1_in F n hf hro hn l Bs _ b off c xs hx hs hb J Jx hY W hc' (fun j hj => ((hB0.trans (hW.mono hB0.size)).cell (p := ⟨b, off + j, none⟩) hb).trans (hcs j hj)) h0

theorem mix_any (a b : Int) (w : World) :
    Calls Try.prog 76 #[.int .u64 a, .int .u64 b] w fun e w' => e = .returned (.int .u64 (mixI a b)) ∧ w = w' := by
  go_enter Try.func76, Try.ntmps76
  go_wp2
  go_ret
  exact ⟨rfl, rfl⟩
end Go.Proofs.Ytajdkcpcgfipbaa
