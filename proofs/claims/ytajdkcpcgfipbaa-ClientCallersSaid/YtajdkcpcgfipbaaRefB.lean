/- The hash and the varint of the reference models are the program's: the same plain functions. -/
import Derived.Test.YtajdkcpcgfipbaaRefA
import Derived.Test.YtajdkcpcgfipbaaMemF
namespace Go.Proofs.Ytajdkcpcgfipbaa
open Go.RowKit Go.Wm
attribute [local go_sem] min_int max_int

theorem RMix_any (a b : Int) (w : World) :
    Calls Try.prog 112 #[.int .u64 a, .int .u64 b] w fun e w' => e = .returned (.int .u64 (mixI a b)) ∧ w = w' := by
  go_enter Try.func112, Try.ntmps112
  go_wp2
  go_ret
  refine ⟨?_, rfl⟩
  have h : 0 ≤ IntKind.u64.wrap (bits .xor .u64 a b * 11400714819323198485) ∧ IntKind.u64.wrap (bits .xor .u64 a b * 11400714819323198485) < 18446744073709551616 := by rw [IntKind.wrap_u64]; omega
  have e : IntKind.u64.wrap ((IntKind.u64.wrap (bits .xor .u64 a b * 11400714819323198485)).tdiv 4294967296) = IntKind.u64.wrap (bits .xor .u64 a b * 11400714819323198485) / 4294967296 := by
    rw [Int.tdiv_eq_ediv_of_nonneg h.1, IntKind.wrap_u64 (_ / _)]; omega
  unfold mixI
  rw [← e]
  rfl
theorem pow256_le (n : Nat) (h : n ≤ 7) : (256 : Int) ^ n ≤ 72057594037927936 := by
  have d : ∀ i : Fin 8, (256 : Int) ^ i.val ≤ 72057594037927936 := by decide
  exact d ⟨n, by omega⟩
/-- one byte more at the low end of a word -/
theorem low_step (xs : List Int) (hx : Byt xs) (k t m : Nat) (ht : t + 1 ≤ m) (hm : m ≤ 8) (h : 8 * k + m ≤ xs.length) :
    wordLE ((xs.drop (8 * k + t)).take (m - t)) = 256 * wordLE ((xs.drop (8 * k + (t + 1))).take (m - (t + 1))) + xs[8 * k + t]?.getD 0 ∧
    0 ≤ wordLE ((xs.drop (8 * k + (t + 1))).take (m - (t + 1))) ∧ wordLE ((xs.drop (8 * k + (t + 1))).take (m - (t + 1))) < 72057594037927936 := by
  have hb := wordLE_bound ((hx.drop (8 * k + (t + 1))).take (m - (t + 1)))
  refine ⟨?_, hb.1, Int.lt_of_lt_of_le hb.2 ?_⟩
  · rw [List.drop_eq_getElem_cons (show 8 * k + t < xs.length by omega), show m - t = (m - (t + 1)) + 1 from by omega, List.take_succ_cons, wordLE, List.getElem?_eq_getElem (by omega), Option.getD_some]
    rw [show 8 * k + (t + 1) = 8 * k + t + 1 from rfl]; omega
  · have hl : ((xs.drop (8 * k + (t + 1))).take (m - (t + 1))).length ≤ 7 := by rw [List.length_take]; omega
    exact pow256_le _ hl
theorem info_u64 : (Try.prog.info? 22).map (fun i => (i.zero, i.size, i.bytes)) = some (some (.int .u64 0), 1, 8) := by kernel_rfl

set_option maxRecDepth 100000 in
set_option maxHeartbeats 2000000 in
theorem RWords_any (A : Option Addr) (c : Nat) (xs : List Int) (hx : Byt xs) (hl : xs.length ≤ 17592186044000) (w : World) (hr : Rd .u8 w A xs) :
    Calls Try.prog 111 #[.slice A xs.length c] w fun e w' => (∃ v, e = .returned v ∧ w'.ownsRow w.heap.size 22 1 v (wordsI xs).length ((wordsI xs).map (.int .u64))) ∧ Below w.heap.size w w' := by
  obtain ⟨i0, hi, hz0, hz1, hz2⟩ := info_parts info_u64
  have Hr := Lib.hid hr
  have Hx := Lib.hid hx
  clear hr hx
  go_enter Try.func111, Try.ntmps111
  go_wp2
  go_loopw [3, 4] (fun v i wr => ∃ k : Nat, i = .int .i64 (8 * (k : Int)) ∧ k ≤ (xs.length + 7) / 8 ∧ (∃ A0 c0, v = .slice A0 k c0 ∧ wr.ownsRow w.heap.size 22 1 (.slice A0 k c0) k ((upto xs k).map (.int .u64))) ∧ Below w.heap.size w wr)
    (fun _ i _ => xs.length + 8 - (intOf i).toNat)
  case atStart => exact ⟨0, rfl, Nat.zero_le _, ⟨none, 0, rfl, World.ownsRow_nil _ _ _ _⟩, Below.refl _ _⟩
  case round =>
    obtain ⟨k, rfl, hk, ⟨A0, c0, rfl, hrow⟩, hB⟩ := hrel
    have Hrow := Lib.hid hrow
    have HB := Lib.hid hB
    clear hrow hB
    by_cases hlt : 8 * k < xs.length
    · have hd : decide (8 * (k : Int) < (xs.length : Int)) = true := by simp; omega
      obtain ⟨m, hm⟩ : ∃ m : Nat, m = min 8 (xs.length - 8 * k) := ⟨_, rfl⟩
      have e1 : mnI (8 * (k : Int) + 8) (xs.length : Int) = 8 * (k : Int) + (m : Int) := by unfold mnI; split <;> omega
      have hm1 : 1 ≤ m ∧ m ≤ 8 ∧ 8 * k + m ≤ xs.length := by omega
      have Hm := Lib.hid hm
      clear hm
      obtain ⟨b, off, hA, hbl, hcs⟩ : ∃ b off, A = some ⟨b, off, none⟩ ∧ b < w.heap.size ∧ ∀ j, j < xs.length → w.cell? ⟨b, off + j, none⟩ = some (.int .u8 (xs[j]?.getD 0)) := by
        rcases Hr.out with h | h
        · rw [h] at hlt; simp at hlt
        · exact h
      subst hA
      have Hcs := Lib.hid hcs
      clear hcs
      go_wp2
      go_loop [5, 6] (fun a i => ∃ (t : Nat) (aa : Int), i = .int .i64 (8 * (k : Int) + (t : Int) - 1) ∧ t ≤ m ∧ a = .int .u64 aa ∧ aa = wordLE ((xs.drop (8 * k + t)).take (m - t)))
        (fun _ i => (intOf i + 1).toNat)
      case atStart => exact ⟨m, 0, rfl, Nat.le_refl _, rfl, by simp [wordLE]⟩
      case round =>
        obtain ⟨t, aa, rfl, ht, rfl, haa⟩ := hrel
        by_cases h0 : t = 0
        · subst h0
          have Haa := Lib.hid haa
          clear haa
          have hd2 : decide (8 * (k : Int) ≤ 8 * (k : Int) + ((0 : Nat) : Int) - 1) = false := decide_eq_false (by omega)
          have hlit := Lib.hid (Rd.lit .u64 wr 22 [aa])
          go_wp2_with (at_builtin; refine wpList_append_rd .u64 rfl _ _ 170 rfl w.heap.size 22 i0 (.int .u64 0) 8 Try.underlying170 hi hz0 hz1 hz2 rfl _ _ _ _ rfl (Hrow.out.alloc _) (some ⟨wr.heap.size, 0, none⟩) 1 1 [aa] rfl rfl hlit.out (by unfold maxLen; omega) (by omega) (by have := HB.out.size; simp; omega) ?_; intro A1 c1 w1 hown' _ _ hb1; have Hown := Lib.hid hown'; have Hb1 := Lib.hid hb1; clear hown' hb1)
          refine ⟨⟨k + 1, by go_num, by omega, ⟨A1, c1, rfl, ?_⟩, ((HB.out.alloc HB.out.size _).trans Hb1.out)⟩, by simp [intOf]; omega⟩
          have e : aa = wordAt xs (8 * k) := by
            rw [Haa.out, ← wordAt_full xs k m (by have := Hm.out; omega) (by omega), Nat.sub_zero, Nat.add_zero]
          exact own_cast Hown.out rfl (by rw [upto_succ, ← e, List.map_append])
        · obtain ⟨t, rfl⟩ : ∃ t', t = t' + 1 := ⟨t - 1, by omega⟩
          have hcell := (HB.out.cell (p := ⟨b, off + (8 * k + t), none⟩) hbl).trans (Hcs.out _ (by omega))
          obtain ⟨x, hx⟩ : ∃ x, x = xs[8 * k + t]?.getD 0 := ⟨_, rfl⟩
          rw [← hx] at hcell
          have hxb : 0 ≤ x ∧ x < 256 := by rw [hx]; exact Hx.out.get _
          obtain ⟨q1, q2, q3⟩ := low_step xs Hx.out k t m ht (by omega) (by omega)
          rw [← haa] at q1 q2 q3
          have Q1 := Lib.hid q1
          have Hxx := Lib.hid hx
          clear q1 hx haa
          have hd2 : decide (8 * (k : Int) ≤ 8 * (k : Int) + ((t + 1 : Nat) : Int) - 1) = true := decide_eq_true (by omega)
          go_wp2
          exact ⟨⟨t, 256 * aa + x, by congr 1; omega, by omega, rfl, by rw [Q1.out, Hxx.out]⟩, by simp [intOf]; omega⟩
    · have e : k = (xs.length + 7) / 8 := by omega
      have He := Lib.hid e
      have hd : decide (8 * (k : Int) < (xs.length : Int)) = false := by simp; omega
      clear e
      go_wp2
      go_ret
      have hk : (wordsI xs).length = k := by rw [He.out]; simp [wordsI]
      exact ⟨⟨_, rfl, own_cast Hrow.out hk.symm (by rw [He.out]; rfl)⟩, HB.out⟩

set_option maxRecDepth 100000 in
set_option maxHeartbeats 2000000 in
theorem RSum_any (s : ByteArray) (hs : s.size ≤ 17592186044000) (A : Option Addr) (c : Nat) (xs : List Int) (hl : xs.length ≤ 140737488351232) (w : World) (hr : Rd .i64 w A xs) :
    Calls Try.prog 81 #[.string s, .slice A xs.length c] w fun e w' => e = .returned (.int .u64 (sumI (strI s) xs)) ∧ Below w.heap.size w w' := by
  go_enter Try.func81, Try.ntmps81
  obtain ⟨c1, w1, hcv, hr1, hb1, _⟩ := conv_str (P := Try.prog) w 9 23 5 s Try.underlying9 Try.underlying23 Try.underlying5
  have hW := RWords_any (some ⟨w.heap.size, 0, none⟩) c1 (strI s) (strI_byt s) (by rw [strI_length]; exact hs) w1 hr1
  rw [strI_length] at hW
  have HW := Lib.hid hW
  have Hr1 := Lib.hid (hr.below hb1 (Nat.le_refl _))
  have Hb1 := Lib.hid hb1
  clear hr hr1 hb1 hW
  go_wp2_with (fail)
  refine HW.out.mono ?_
  rintro e W2 ⟨⟨v2, rfl, ho2⟩, hb2⟩
  obtain ⟨A2, c2, rfl⟩ := own_slice' ho2
  have Hr2 := Lib.hid (Hr1.out.below hb2 (Nat.le_refl _))
  have Hw2 := Lib.hid (Rd.of_own ho2)
  have HB2 := Lib.hid (Hb1.out.trans (hb2.mono Hb1.out.size))
  have hwl : (wordsI (strI s)).length = (s.size + 7) / 8 := by simp [wordsI, strI_length]
  have Hwl := Lib.hid hwl
  obtain ⟨n, hn⟩ : ∃ n, n = (wordsI (strI s)).length := ⟨_, rfl⟩
  rw [← hn]
  have hnl : n ≤ 17592186044000 := by omega
  have Hn := Lib.hid hn
  clear ho2 hb2 hcv HW Hr1 Hb1 hwl hn Hwl
  go_wp2
  go_loopw [5, 7] (fun a i wr => ∃ k : Nat, i = .int .i64 k ∧ k ≤ n ∧ a = .int .u64 (((wordsI (strI s)).take k).foldl mixI 0) ∧ wr = W2) (fun _ i _ => n - (intOf i).toNat)
  case atStart => exact ⟨0, rfl, Nat.zero_le _, by simp, rfl⟩
  case round =>
    obtain ⟨k, rfl, hk, rfl, rfl⟩ := hrel
    by_cases hlt : k < n
    · have hd : decide ((k : Int) < (n : Int)) = true := decide_eq_true (by omega)
      obtain ⟨b, off, hA, hbl, hcs⟩ : ∃ b off, A2 = some ⟨b, off, none⟩ ∧ b < wr.heap.size ∧ ∀ j, j < (wordsI (strI s)).length → wr.cell? ⟨b, off + j, none⟩ = some (.int .u64 ((wordsI (strI s))[j]?.getD 0)) := by
        rcases Hw2.out with h | h
        · rw [Hn.out, h] at hlt; simp at hlt
        · exact h
      subst hA
      have hcell := hcs k (by rw [← Hn.out]; exact hlt)
      clear hcs
      go_wp2_with (fail)
      refine (RMix_any _ _ _).mono ?_
      rintro e w' ⟨rfl, rfl⟩
      go_wp2_with (fail)
      go_round
      case rel => exact ⟨k + 1, by go_num, by omega, by rw [foldl_take_succ _ _ _ _ (show k < (wordsI (strI s)).length by rw [← Hn.out]; exact hlt), List.getElem?_eq_getElem (show k < (wordsI (strI s)).length by rw [← Hn.out]; exact hlt)]; rfl, trivial⟩
      case measure => simp [intOf]; omega
    · have hd : decide ((k : Int) < (n : Int)) = false := decide_eq_false (by omega)
      obtain rfl : k = n := by omega
      obtain ⟨s0, hs0⟩ : ∃ s0, s0 = ((wordsI (strI s)).take k).foldl mixI 0 := ⟨_, rfl⟩
      rw [← hs0]
      have Hs0 := Lib.hid hs0
      clear hs0
      go_wp2_with (fail)
      refine (RMix_any _ _ _).mono ?_
      rintro e w' ⟨rfl, rfl⟩
      go_wp2_with (fail)
      refine (RMix_any _ _ _).mono ?_
      rintro e w' ⟨rfl, rfl⟩
      go_wp2_with (fail)
      go_loopw [5, 8] (fun a i wr' => ∃ j : Nat, i = .int .i64 j ∧ j ≤ xs.length ∧ a = .int .u64 ((xs.take j).foldl (fun s n => mixI s (u64 n)) (mixI (mixI s0 s.size) xs.length)) ∧ wr' = wr) (fun _ i _ => xs.length - (intOf i).toNat)
      case atStart => exact ⟨0, rfl, Nat.zero_le _, by simp, rfl⟩
      case round =>
        obtain ⟨j, rfl, hj, rfl, rfl⟩ := hrel
        by_cases hlt2 : j < xs.length
        · have hd : decide ((j : Int) < (xs.length : Int)) = true := decide_eq_true (by omega)
          obtain ⟨b, off, hA, hbl, hcs⟩ : ∃ b off, A = some ⟨b, off, none⟩ ∧ b < wr.heap.size ∧ ∀ j, j < xs.length → wr.cell? ⟨b, off + j, none⟩ = some (.int .i64 (xs[j]?.getD 0)) := by
            rcases Hr2.out with h | h
            · rw [h] at hlt2; simp at hlt2
            · exact h
          subst hA
          have hcell := hcs j hlt2
          clear hcs
          go_wp2_with (fail)
          refine (RMix_any _ _ _).mono ?_
          rintro e w' ⟨rfl, rfl⟩
          go_wp2_with (fail)
          go_round
          case rel => exact ⟨j + 1, by go_num, by omega, by rw [foldl_take_succ _ _ _ _ hlt2]; rfl, trivial⟩
          case measure => simp [intOf]; omega
        · have hd : decide ((j : Int) < (xs.length : Int)) = false := decide_eq_false (by omega)
          obtain rfl : j = xs.length := by omega
          go_wp2_with (fail)
          refine (RMix_any _ _ _).mono ?_
          rintro e w' ⟨rfl, rfl⟩
          go_wp2_with (fail)
          go_ret
          refine ⟨?_, HB2.out⟩
          have e : sumI (strI s) xs = mixI (xs.foldl (fun s n => mixI s (u64 n)) (mixI (mixI s0 s.size) xs.length)) 0 := by
            unfold sumI; rw [strI_length, Hs0.out, Hn.out, List.take_length]
          rw [e]; rfl

set_option maxRecDepth 100000 in
set_option maxHeartbeats 2000000 in
theorem RBytes_any (s : ByteArray) (hs : s.size ≤ 17592186044000) (A : Option Addr) (c : Nat) (xs : List Int) (hx : Byt xs) (hl : xs.length ≤ 17592186044000) (w : World) (hr : Rd .u8 w A xs) :
    Calls Try.prog 82 #[.string s, .slice A xs.length c] w fun e w' => e = .returned (.int .u64 (hashB (strI s) xs)) ∧ Below w.heap.size w w' := by
  obtain ⟨i0, hi, hz0, hz1, hz2⟩ := info_parts info_int
  have HW := Lib.hid (RWords_any A c xs hx hl w hr)
  go_enter Try.func82, Try.ntmps82
  clear hr hx
  go_wp2_with (fail)
  refine HW.out.mono ?_
  rintro e W2 ⟨⟨v2, rfl, ho2⟩, hb2⟩
  obtain ⟨A2, c2, rfl⟩ := own_slice' ho2
  have Hw2 := Lib.hid (Rd.of_own ho2)
  have HB2 := Lib.hid hb2
  obtain ⟨n, hn⟩ : ∃ n, n = (wordsI xs).length := ⟨_, rfl⟩
  have hwl : (wordsI xs).length = (xs.length + 7) / 8 := by simp [wordsI]
  rw [← hn]
  have hnl : n ≤ 17592186044000 := by omega
  have Hn := Lib.hid hn
  clear ho2 hb2 HW hwl hn
  go_wp2
  go_loopw [6, 7] (fun v i wr => ∃ k : Nat, i = .int .i64 k ∧ k ≤ n ∧ (∃ A0 c0, v = .slice A0 k c0 ∧ wr.ownsRow W2.heap.size 3 1 (.slice A0 k c0) k ((((wordsI xs).map wrap64).take k).map (.int .i64))) ∧ Below W2.heap.size W2 wr) (fun _ i _ => n - (intOf i).toNat)
  case atStart => exact ⟨0, rfl, Nat.zero_le _, ⟨none, 0, rfl, World.ownsRow_nil _ _ _ _⟩, Below.refl _ _⟩
  case round =>
    obtain ⟨k, rfl, hk, ⟨A0, c0, rfl, hrow⟩, hB⟩ := hrel
    have Hrow := Lib.hid hrow
    have HB := Lib.hid hB
    clear hrow hB
    by_cases hlt : k < n
    · have hd : decide ((k : Int) < (n : Int)) = true := decide_eq_true (by omega)
      obtain ⟨b, off, hA, hbl, hcs⟩ : ∃ b off, A2 = some ⟨b, off, none⟩ ∧ b < W2.heap.size ∧ ∀ j, j < (wordsI xs).length → W2.cell? ⟨b, off + j, none⟩ = some (.int .u64 ((wordsI xs)[j]?.getD 0)) := by
        rcases Hw2.out with h | h
        · rw [Hn.out, h] at hlt; simp at hlt
        · exact h
      subst hA
      have hcell := (HB.out.cell (p := ⟨b, off + k, none⟩) hbl).trans (hcs k (by rw [← Hn.out]; exact hlt))
      obtain ⟨x, hx⟩ : ∃ x, x = (wordsI xs)[k]?.getD 0 := ⟨_, rfl⟩
      rw [← hx] at hcell
      have Hxx := Lib.hid hx
      have hlit := Lib.hid (Rd.lit .i64 wr 3 [wrap64 x])
      clear hcs hx
      go_wp2_with (at_builtin; refine wpList_append_rd .i64 rfl _ _ 48 rfl W2.heap.size 3 i0 (.int .i64 0) 8 Try.underlying48 hi hz0 hz1 hz2 rfl _ _ _ _ rfl (Hrow.out.alloc _) (some ⟨wr.heap.size, 0, none⟩) 1 1 [wrap64 x] rfl rfl hlit.out (by unfold maxLen; omega) (by omega) (by have := HB.out.size; simp; omega) ?_; intro A1 c1 w1 hown' _ _ hb1; have Hown := Lib.hid hown'; have Hb1 := Lib.hid hb1; clear hown' hb1)
      refine ⟨⟨k + 1, by go_num, by omega, ⟨A1, c1, rfl, own_cast Hown.out rfl ?_⟩, (HB.out.alloc HB.out.size _).trans Hb1.out⟩, by simp [intOf]; omega⟩
      have hk' : k < (wordsI xs).length := by rw [← Hn.out]; exact hlt
      rw [List.take_succ_eq_append_getElem (show k < ((wordsI xs).map wrap64).length by simpa using hk'), List.map_append, List.getElem_map, Hxx.out, List.getElem?_eq_getElem hk']
      rfl
    · have hd : decide ((k : Int) < (n : Int)) = false := decide_eq_false (by omega)
      obtain rfl : k = n := by omega
      have hlit := Lib.hid (Rd.lit .i64 wr 3 [(xs.length : Int)])
      go_wp2_with (at_builtin; refine wpList_append_rd .i64 rfl _ _ 48 rfl W2.heap.size 3 i0 (.int .i64 0) 8 Try.underlying48 hi hz0 hz1 hz2 rfl _ _ _ _ rfl (Hrow.out.alloc _) (some ⟨wr.heap.size, 0, none⟩) 1 1 [(xs.length : Int)] rfl rfl hlit.out (by unfold maxLen; omega) (by omega) (by have := HB.out.size; simp; omega) ?_; intro A1 c1 w1 hown' _ _ hb1; have Hown := Lib.hid hown'; have Hb1 := Lib.hid hb1; clear hown' hb1)
      have hol : ((wordsI xs).map wrap64 ++ [(xs.length : Int)]).length = k + 1 := by rw [Hn.out]; simp
      have hS := RSum_any s hs A1 c1 ((wordsI xs).map wrap64 ++ [(xs.length : Int)]) (by omega) w1 (Rd.of_own (own_cast Hown.out rfl (by rw [List.map_append, Hn.out, List.take_of_length_le (by simp)])))
      rw [hol] at hS
      have HS := Lib.hid hS
      clear hS hol
      go_wp2_with (fail)
      refine HS.out.mono ?_
      rintro e W3 ⟨rfl, hb3⟩
      have hB1 := (HB.out.alloc HB.out.size _).trans Hb1.out
      have HB3 := Lib.hid (HB2.out.trans ((hB1.trans (hb3.mono hB1.size)).mono HB2.out.size))
      clear hb3 hB1
      go_wp2_with (fail)
      go_ret
      exact ⟨rfl, HB3.out⟩
end Go.Proofs.Ytajdkcpcgfipbaa
