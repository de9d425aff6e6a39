/- hash.Sum and hash.Bytes return the hash as plain numbers give it, and nothing that lay in memory has turned. -/
import Derived.Test.YtajdkcpcgfipbaaHashA
import Derived.Maps.AppendAt
import Derived.RangeFuncBox
namespace Go.Proofs.Ytajdkcpcgfipbaa
open Go.RowKit Go.Shelf Go.Wm
attribute [local go_sem] Oper.semAt_some

set_option maxRecDepth 100000 in
set_option maxHeartbeats 2000000 in
theorem Sum_any (s : ByteArray) (hs : s.size ≤ 140737488351232) (A : Option Addr) (c : Nat) (xs : List Int) (hl : xs.length ≤ 140737488351232) (w : World) (hr : Rd .i64 w A xs) :
    Calls Try.prog 25 #[.string s, .slice A xs.length c] w fun e w' => e = .returned (.int .u64 (sumI (strI s) xs)) ∧ Below w.heap.size w w' := by
  refine (callsIn_wide (n := 9)).1 ?_
  refine callsIn_of_wp_marks Try.func25 rfl trivial ?_ rfl
  simp only [Try.ntmps25, List.size_toArray, List.length_cons, List.length_nil, Nat.reduceAdd, Nat.reduceSub, Array.replicate_succ, Array.replicate_zero, List.push_toArray, List.append_toArray, List.nil_append, List.cons_append]
  gi_wp2_with (refine ⟨trivial, ?_⟩; gi_at_call 75; refine (words_s_in Fence.wide 8 trivial rfl _ _).mono ?_; rintro e w' ⟨rfl, rfl⟩)
  have b0 := (Boxed.new w 22 (.int .u64 0)).alloc (.cells #[.string s] 9)
  have bB := Boxed.new (w.alloc (.cells #[.int .u64 0] 22)) 9 (.string s)
  rw [World.size_alloc] at bB
  have hB0 : Below w.heap.size w ((w.alloc (.cells #[.int .u64 0] 22)).alloc (.cells #[.string s] 9)) := ((Below.refl _ w).alloc (Nat.le_refl _) _).alloc (by simp) _
  refine wpIn_rangeFunc_ownG rfl (by omega) (gf := 109) (lb := #[.pointer (some ⟨w.heap.size + 1, 0, none⟩)]) rfl trivial (enters_of Try.func109 (by kernel_rfl) rfl)
    (words_s_stops Fence.wide 8 trivial rfl (by omega) (w.heap.size + 1) w.heap.size s hs _ (by simp) bB.cell) KB.trans (KB.put (by simp; omega) (by simp)) (Below.refl _ _) (fun _ => rfl)
    (fun pre W => Boxed W w.heap.size 22 (.int .u64 (pre.foldl mixI 0)) ∧ Below w.heap.size w W)
    (fun _ _ _ => False)
    (OwnFrom.and (Own.from (boxed_own _ _ (fun pre : List Int => Value.int .u64 (pre.foldl mixI 0))) _) (ownFrom_below (Nat.le_refl _) (by simp; omega)))
    (fun _ _ _ _ _ hs _ _ => hs)
    ⟨b0, hB0⟩
    (fun x => { tmps := #[.string s, .slice A xs.length c, undef, undef, .int .u64 0, .pointer (some ⟨w.heap.size, 0, none⟩), .int .u64 x, undef, undef, .string s, .func (.func 109) #[] #[.pointer (some ⟨w.heap.size + 1, 0, none⟩)], .int .u64 x, undef, undef, undef, undef, undef, undef, undef, undef, undef, undef, undef, undef, undef, undef, undef, undef, undef, undef, undef, undef, undef, undef, undef, undef, undef], defers := [] }) ?assign ?body ?done ?stop
  case assign =>
    intro l x W K hK
    gi_wp2
    exact hK
  case body =>
    rintro l pre x W ⟨hb, hB⟩ _
    have hc := hb.cell
    have hf := hb.frozen
    gi_wp2_with (refine ⟨trivial, ?_⟩; gi_at_call 76; refine (CallsIn.inRound l (callsIn_wide.2 (mix_any _ _ _))).mono ?_; rintro e w' ⟨rfl, rfl⟩)
    exact ⟨(KeepsOthers.setCell _ _ _).from _, ⟨(Below.refl w.heap.size _).setCell (p := ⟨w.heap.size, 0, none⟩) (Nat.le_refl _) _, Below.heap_setCell _ _ _ _ (by simp)⟩, by rw [List.foldl_append]; exact hb.set _, hB.setCell (p := ⟨w.heap.size, 0, none⟩) (Nat.le_refl _) _⟩
  case done =>
    rintro D ys W hD rfl ⟨hb, hB⟩ hK
    have hc := hb.cell
    have hf := hb.frozen
    gi_wp2_with (refine ⟨trivial, ?_⟩; gi_at_call 76; refine (callsIn_wide.2 (mix_any _ _ _)).mono ?_; rintro e w' ⟨rfl, rfl⟩)
    have hBx : Boxed (W.setCell ⟨w.heap.size, 0, none⟩ (.int .u64 (mixI (mixI (List.foldl mixI 0 (wordsI (strI s))) s.size) xs.length))) w.heap.size 22 _ := hb.set _
    have hDl : w.heap.size + 2 ≤ D := by simp at hD; omega
    have hKx : (W.setCell ⟨w.heap.size, 0, none⟩ (.int .u64 (mixI (mixI (List.foldl mixI 0 (wordsI (strI s))) s.size) xs.length))).heap[D]? = some (.deferred (some [])) := (Below.heap_setCell _ _ _ _ (by simp; omega)).trans hK
    have hBl : Below w.heap.size w (W.setCell ⟨w.heap.size, 0, none⟩ (.int .u64 (mixI (mixI (List.foldl mixI 0 (wordsI (strI s))) s.size) xs.length))) := hB.setCell (p := ⟨w.heap.size, 0, none⟩) (Nat.le_refl _) _
    clear hc hf hb hB hK hD
    gi_loopw [26] (fun i wr => ∃ k : Nat, i = .int .i64 (k : Int) ∧ k ≤ xs.length ∧ Boxed wr w.heap.size 22 (.int .u64 ((xs.take k).foldl (fun s n => mixI s (u64 n)) (mixI (mixI (List.foldl mixI 0 (wordsI (strI s))) s.size) xs.length))) ∧ Below w.heap.size w wr ∧ wr.heap[D]? = some (.deferred (some [])))
      (fun i _ => xs.length - (intOf i).toNat)
    case atStart => exact ⟨0, rfl, Nat.zero_le _, by simpa using hBx, hBl, hKx⟩
    case round =>
      obtain ⟨k, rfl, hk, hb, hB, hK⟩ := hrel
      have hc := hb.cell
      have hf := hb.frozen
      by_cases hlt : k < xs.length
      · rcases hr with rfl | ⟨b, off, rfl, hbl, hcs⟩
        · simp at hlt
        · have hcell := (hB.cell (p := ⟨b, off + k, none⟩) hbl).trans (hcs k hlt)
          have hb' := Lib.hid hb
          have hK' := Lib.hid hK
          clear hb hK hKx hBx hcs
          gi_wp2_with (refine ⟨trivial, ?_⟩; gi_at_call 76; refine (callsIn_wide.2 (mix_any _ _ _)).mono ?_; rintro e w' ⟨rfl, rfl⟩)
          go_roundw
          case rel => exact ⟨k + 1, by go_num, by omega, by rw [foldl_take_succ _ _ _ _ hlt]; exact hb'.out.set _, hB.setCell (p := ⟨w.heap.size, 0, none⟩) (Nat.le_refl _) _, (Below.heap_setCell _ _ _ _ (by simp; omega)).trans hK'.out⟩
          case measure => simp [intOf]; omega
      · obtain rfl : k = xs.length := by omega
        have hK' := Lib.hid hK
        clear hK hKx hBx
        gi_wp2_with (refine ⟨trivial, ?_⟩; gi_at_call 76; refine (callsIn_wide.2 (mix_any _ _ _)).mono ?_; rintro e w' ⟨rfl, rfl⟩)
        refine ⟨by simp, .inl ⟨_, _, rfl, run_takeDeferred hK'.out, ?_⟩⟩
        exact ⟨_, results_tmp rfl _ _ _, by simp [sumI, strI_length], hB.trans (belowK_b (w := w) (Nat.le_refl _) _ D _ _ (by omega) hK'.out rfl rfl)⟩
  case stop =>
    rintro D c pre W _ _ h _
    exact h.elim

theorem info_int : (Try.prog.info? 3).map (fun i => (i.zero, i.size, i.bytes)) = some (some (.int .i64 0), 1, 8) := by kernel_rfl

set_option maxRecDepth 100000 in
set_option maxHeartbeats 2000000 in
theorem Bytes_any (s : ByteArray) (hs : s.size ≤ 140737488351232) (A : Option Addr) (c : Nat) (xs : List Int) (hx : Byt xs) (hl : xs.length ≤ 17592186044000) (w : World) (hr : Rd .u8 w A xs) :
    Calls Try.prog 26 #[.string s, .slice A xs.length c] w fun e w' => e = .returned (.int .u64 (hashB (strI s) xs)) ∧ Below w.heap.size w w' := by
  obtain ⟨i0, hi, hz0, hz1, hz2⟩ := info_parts info_int
  refine (callsIn_wide (n := 9)).1 ?_
  refine callsIn_of_wp_marks Try.func26 rfl trivial ?_ rfl
  simp only [Try.ntmps26, List.size_toArray, List.length_cons, List.length_nil, Nat.reduceAdd, Nat.reduceSub, Array.replicate_succ, Array.replicate_zero, List.push_toArray, List.append_toArray, List.nil_append, List.cons_append]
  gi_wp2_with (refine ⟨trivial, ?_⟩; gi_at_call 77; refine (words_b_in Fence.wide 8 trivial rfl _ _ _ _).mono ?_; rintro e w' ⟨rfl, rfl⟩)
  have b0 := (Boxed.new w 48 (.slice none 0 0)).alloc (.cells #[.slice A xs.length c] 23)
  have bB := Boxed.new (w.alloc (.cells #[.slice none 0 0] 48)) 23 (.slice A xs.length c)
  rw [World.size_alloc] at bB
  have hB0 : Below w.heap.size w ((w.alloc (.cells #[.slice none 0 0] 48)).alloc (.cells #[.slice A xs.length c] 23)) := ((Below.refl _ w).alloc (Nat.le_refl _) _).alloc (by simp) _
  refine wpIn_rangeFunc_ownG rfl (by omega) (gf := 110) (lb := #[.pointer (some ⟨w.heap.size + 1, 0, none⟩)]) rfl trivial (enters_of Try.func110 (by kernel_rfl) rfl)
    (words_b_stops Fence.wide 8 trivial rfl (by omega) (w.heap.size + 1) w.heap.size A c xs hx (by omega) w _ (by simp) rfl hB0 bB.cell hr) KB.trans (KB.put (by simp; omega) (by simp)) (Below.refl _ _) (fun _ => rfl)
    (fun pre W => ((∃ v, Boxed W w.heap.size 48 v ∧ W.ownsRow w.heap.size 3 1 v pre.length ((pre.map wrap64).map (Value.int .i64)) ∧ True) ∧ Boxed W (w.heap.size + 1) 23 (.slice A xs.length c)) ∧ Below w.heap.size w W)
    (fun _ _ _ => False)
    (OwnFrom.and (OwnFrom.and (Own.from (holdsRow_own w.heap.size w.heap.size 48 3 1 (fun pre : List Int => pre.length) (fun pre => (pre.map wrap64).map (Value.int .i64)) (fun _ _ => True)) _) (Own.from (boxed_own _ _ (fun _ : List Int => Value.slice A xs.length c)) _)) (ownFrom_below (Nat.le_refl _) (by simp; omega)))
    (fun _ _ _ _ _ hs _ _ => hs)
    ⟨⟨⟨_, b0, World.ownsRow_nil _ _ _ _, trivial⟩, bB⟩, hB0⟩
    (fun x => { tmps := #[.string s, .slice A xs.length c, undef, undef, .int .u64 0, .pointer (some ⟨w.heap.size, 0, none⟩), .int .u64 x, .slice A xs.length c, .func (.func 110) #[] #[.pointer (some ⟨w.heap.size + 1, 0, none⟩)], .int .u64 x, undef, undef, undef, undef, undef, undef, undef, undef, undef, undef, undef, undef], defers := [] }) ?assign ?body ?done ?stop
  case assign =>
    intro l x W K hK
    gi_wp2
    exact hK
  case body =>
    rintro l pre x W ⟨⟨⟨v, hv, hrow, _⟩, hbB⟩, hB⟩ hlt
    have hc := hv.cell
    gi_wp2_with (gi_at_builtin; refine wpListIn_append_own _ rfl _ _ 48 rfl w.heap.size 3 i0 (.int .i64 0) 1 8 Try.underlying48 hi hz0 hz1 hz2 rfl (by decide) _ _ _ rfl (hrow.alloc _) ⟨W.heap.size, 0, none⟩ 1 1 [.int .i64 (wrap64 x)] rfl rfl (cell_one_new _ _ _) (by simp [Value.oneCell']) (by unfold maxLen; omega) (by omega) (by have := hB.size; simp; omega) ?_; intro v' w1 hown' hgrow _; obtain ⟨g', cap', rfl⟩ := ownsRow_succ hown'; obtain ⟨hv1, hv2, hr2, hk2, hb2⟩ := hv.appended (by decide) hrow hB.size (Nat.le_refl _) hown' hgrow; have hc1 := hv1.cell; have hf1 := hv1.frozen)
    have hbB2 : Boxed (w1.setCell ⟨w.heap.size, 0, none⟩ (.slice (some ⟨g', 0, none⟩) (pre.length + 1) cap')) (w.heap.size + 1) 23 (.slice A xs.length c) := ((hbB.alloc _).kept hgrow (hbB.not_row (by decide) hrow)).other (by omega) _
    exact ⟨hk2.from _, ⟨hb2, Eq.trans hbB2 (Eq.symm hbB)⟩, ⟨⟨_, hv2, by simpa using hr2, trivial⟩, hbB2⟩, hB.trans hb2⟩
  case done =>
    rintro D ys W hD rfl ⟨⟨⟨v, hv, hrow, _⟩, hbB⟩, hB⟩ hK
    have hc := hv.cell
    have hln : (wordsI xs).length = (xs.length + 7) / 8 := by simp [wordsI]
    have hK' := Lib.hid hK
    have hln' := Lib.hid hln
    clear hK
    gi_wp2_with (gi_at_builtin; refine wpListIn_append_own _ rfl _ _ 48 rfl w.heap.size 3 i0 (.int .i64 0) 1 8 Try.underlying48 hi hz0 hz1 hz2 rfl (by decide) _ _ _ rfl (hrow.alloc _) ⟨W.heap.size, 0, none⟩ 1 1 [.int .i64 xs.length] rfl rfl (cell_one_new _ _ _) (by simp [Value.oneCell']) (by unfold maxLen; omega) (by omega) (by have := hB.size; simp; omega) ?_; intro v' w1 hown' hgrow _; obtain ⟨g', cap', rfl⟩ := ownsRow_succ hown'; clear hln)
    have hS := Sum_any s hs (some ⟨g', 0, none⟩) cap' ((wordsI xs).map wrap64 ++ [(xs.length : Int)]) (by simp [hln'.out]; omega) w1 (Rd.of_own (n := (wordsI xs).length + 1) (by simpa using hown'))
    simp only [List.length_append, List.length_map, List.length_cons, List.length_nil, Nat.zero_add] at hS
    have hK1 : w1.heap[D]? = some (.deferred (some [])) := (own_keeps hrow hgrow).same D _ hK'.out rfl
    have hB1 := hB.trans (own_below hrow hB.size hgrow)
    gi_wp2_with (refine ⟨trivial, ?_⟩; gi_at_call 25; refine (callsIn_wide.2 hS).mono ?_; rintro e w2 ⟨rfl, hb2⟩)
    have hD1 := (Array.getElem?_eq_some_iff.1 hK1).1
    have hK2 := (hb2.block D hD1).trans hK1
    refine ⟨by simp, .inl ⟨_, _, rfl, run_takeDeferred hK2, ?_⟩⟩
    exact ⟨_, results_tmp rfl _ _ _, rfl, (hB1.trans (hb2.mono hB1.size)).trans (belowK_b (w := w) (Nat.le_refl _) _ D _ _ (by simp at hD; omega) hK2 rfl rfl)⟩
  case stop =>
    rintro D c pre W _ _ h _
    exact h.elim
end Go.Proofs.Ytajdkcpcgfipbaa
