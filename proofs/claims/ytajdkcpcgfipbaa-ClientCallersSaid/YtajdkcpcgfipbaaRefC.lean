/- The wire and journal encoders of the reference models are the program's: the same plain functions. -/
import Derived.Test.YtajdkcpcgfipbaaRefB
import Derived.Test.YtajdkcpcgfipbaaPureD
namespace Go.Proofs.Ytajdkcpcgfipbaa
open Go.RowKit Go.Wm
attribute [local go_sem] min_int max_int

set_option maxRecDepth 100000 in
set_option maxHeartbeats 1000000 in
theorem RUint_any (n : Nat) (hn : n < 18446744073709551616) (w : World) :
    Calls Try.prog 85 #[.int .u64 n] w fun e w' => (∃ v, e = .returned v ∧ w'.ownsRow w.heap.size 5 1 v (varN n).length ((varN n).map (.int .u8))) ∧ Below w.heap.size w w' := by
  obtain ⟨i0, hi, hz0, hz1, hz2⟩ := info_parts info_u8
  have hvl := varN_length n hn
  go_enter Try.func85, Try.ntmps85
  go_wp2
  go_loopw [0, 3] (fun a v wr => ∃ (m : Nat) (pre : List Int), a = .int .u64 m ∧ m < 18446744073709551616 ∧ varN n = pre ++ varN m ∧ (∃ A0 c0, v = .slice A0 pre.length c0 ∧ wr.ownsRow w.heap.size 5 1 (.slice A0 pre.length c0) pre.length (pre.map (.int .u8))) ∧ Below w.heap.size w wr)
    (fun a _ _ => (intOf a).toNat)
  case atStart => exact ⟨n, [], rfl, hn, rfl, ⟨none, 0, rfl, World.ownsRow_nil _ _ _ _⟩, Below.refl _ _⟩
  case round =>
    obtain ⟨m, pre, rfl, hm, hpre, ⟨A0, c0, rfl, hrow⟩, hB⟩ := hrel
    have hpl : pre.length ≤ 10 := by
      have := congrArg List.length hpre
      simp only [List.length_append] at this
      omega
    have Hrow := Lib.hid hrow
    have HB := Lib.hid hB
    have Hpre := Lib.hid hpre
    clear hrow hB hpre hvl
    by_cases hlt : m < 128
    · have hbyte : IntKind.u8.wrap (m : Int) = m := by rw [IntKind.wrap_u8']; omega
      have hvar := Lib.hid (varN_small hlt)
      have hd : decide ((127 : Int) < (m : Int)) = false := decide_eq_false (by omega)
      have hlit := Lib.hid (Rd.lit .u8 wr 5 [(m : Int)])
      go_wp2_with (at_builtin; refine wpList_append_rd .u8 rfl _ _ 23 rfl w.heap.size 5 i0 (.int .u8 0) 1 Try.underlying23 hi hz0 hz1 hz2 rfl _ _ _ _ rfl (Hrow.out.alloc _) (some ⟨wr.heap.size, 0, none⟩) 1 1 [(m : Int)] rfl rfl hlit.out (by unfold maxLen; omega) (by omega) (by have := HB.out.size; simp; omega) ?_; intro A1 c1 w1 hown' _ _ hb1; have Hown := Lib.hid hown'; have Hb1 := Lib.hid hb1; clear hown' hb1)
      go_ret
      exact ⟨⟨_, rfl, own_cast Hown.out (by rw [Hpre.out, hvar.out]; simp) (by rw [Hpre.out, hvar.out]; simp)⟩, (HB.out.alloc HB.out.size _).trans Hb1.out⟩
    · have hvar := Lib.hid (varN_big hlt)
      obtain ⟨m', hm'⟩ : ∃ m' : Nat, m' = m / 128 := ⟨_, rfl⟩
      have hsh : (m : Int) / 128 = (m' : Int) := by omega
      have hd : decide ((127 : Int) < (m : Int)) = true := decide_eq_true (by omega)
      have hm1 : m' < m := by omega
      have hlit := Lib.hid (Rd.lit .u8 wr 5 [128 + (m : Int) % 128])
      have Hm' := Lib.hid hm'
      clear hm'
      go_wp2_with (at_builtin; refine wpList_append_rd .u8 rfl _ _ 23 rfl w.heap.size 5 i0 (.int .u8 0) 1 Try.underlying23 hi hz0 hz1 hz2 rfl _ _ _ _ rfl (Hrow.out.alloc _) (some ⟨wr.heap.size, 0, none⟩) 1 1 [128 + (m : Int) % 128] rfl rfl hlit.out (by unfold maxLen; omega) (by omega) (by have := HB.out.size; simp; omega) ?_; intro A1 c1 w1 hown' _ _ hb1; have Hown := Lib.hid hown'; have Hb1 := Lib.hid hb1; clear hown' hb1)
      go_roundw
      case rel => exact ⟨m', pre ++ [128 + (m : Int) % 128], rfl, by omega, by rw [Hpre.out, hvar.out, Hm'.out, List.append_assoc]; congr 2; omega, ⟨A1, c1, by simp, own_cast (by simpa using Hown.out) rfl (by simp)⟩, (HB.out.alloc HB.out.size _).trans Hb1.out⟩
      case measure => simp [intOf]; omega

set_option maxHeartbeats 1000000 in
theorem RZig_any (n : Int) (h1 : -9223372036854775808 ≤ n) (h2 : n ≤ 9223372036854775807) (w : World) :
    Calls Try.prog 118 #[.int .i64 n] w fun e w' => e = .returned (.int .u64 (zigN n : Int)) ∧ w = w' := by
  by_cases hn : n < 0
  · have e := Lib.hid (show (zigN n : Int) = 2 * -(n + 1) + 1 by unfold zigN; rw [if_pos hn]; omega)
    rw [e.out]
    go_enter Try.func118, Try.ntmps118
    go_wp2
    go_ret
    exact ⟨rfl, rfl⟩
  · have e := Lib.hid (show (zigN n : Int) = 2 * n by unfold zigN; rw [if_neg hn]; omega)
    rw [e.out]
    go_enter Try.func118, Try.ntmps118
    go_wp2
    go_ret
    exact ⟨rfl, rfl⟩

set_option maxHeartbeats 400000 in
theorem RInt_any (n : Int) (h1 : -9223372036854775808 ≤ n) (h2 : n ≤ 9223372036854775807) (w : World) :
    Calls Try.prog 96 #[.int .i64 n] w fun e w' => (∃ v, e = .returned v ∧ w'.ownsRow w.heap.size 5 1 v (intW n).length ((intW n).map (.int .u8))) ∧ Below w.heap.size w w' := by
  have HU := Lib.hid (RUint_any (zigN n) (zigN_lt n h1 h2) w)
  go_enter Try.func96, Try.ntmps96
  go_wp2_with (fail)
  refine (RZig_any n h1 h2 w).mono ?_
  rintro e w' ⟨rfl, rfl⟩
  go_wp2_with (fail)
  refine HU.out.mono ?_
  rintro e w' ⟨⟨v, rfl, ho⟩, hb⟩
  have Ho := Lib.hid ho
  have Hb := Lib.hid hb
  clear ho hb HU
  go_wp2_with (fail)
  go_ret
  exact ⟨⟨_, rfl, Ho.out⟩, Hb.out⟩

set_option maxHeartbeats 400000 in
theorem RRaw_any (A : Option Addr) (c : Nat) (xs : List Int) (hl : xs.length ≤ 17592186044000) (w : World) (hr : Rd .u8 w A xs) :
    Calls Try.prog 84 #[.slice A xs.length c] w fun e w' => (∃ v, e = .returned v ∧ w'.ownsRow w.heap.size 5 1 v (rawW xs).length ((rawW xs).map (.int .u8))) ∧ Below w.heap.size w w' := by
  obtain ⟨i0, hi, hz0, hz1, hz2⟩ := info_parts info_u8
  have hvl := varN_length xs.length (by omega)
  have HU := Lib.hid (RUint_any xs.length (by omega) w)
  have Hr := Lib.hid hr
  clear hr
  go_enter Try.func84, Try.ntmps84
  go_wp2_with (fail)
  refine HU.out.mono ?_
  rintro e w1 ⟨⟨v, rfl, ho⟩, hb⟩
  obtain ⟨A1, c1, rfl⟩ := own_slice' ho
  have Ho := Lib.hid ho
  have Hb := Lib.hid hb
  have Hr1 := Lib.hid (Hr.out.below hb (Nat.le_refl _))
  have hs1 := hb.size
  clear ho hb HU Hr
  go_wp2_with (at_builtin; refine wpList_append_rd .u8 rfl _ _ 23 rfl w.heap.size 5 i0 (.int .u8 0) 1 Try.underlying23 hi hz0 hz1 hz2 rfl _ _ _ _ rfl Ho.out A _ c xs rfl rfl Hr1.out (by unfold maxLen; omega) (by omega) hs1 ?_; intro A2 c2 w2 hown' _ _ hb1; have Hown := Lib.hid hown'; have Hb1 := Lib.hid hb1; clear hown' hb1)
  go_ret
  exact ⟨⟨_, rfl, own_cast Hown.out (by unfold rawW; simp) (by unfold rawW; simp)⟩, Hb.out.trans Hb1.out⟩

set_option maxHeartbeats 400000 in
theorem RCore_any (n : Int) (h1 : -9223372036854775808 ≤ n) (h2 : n ≤ 9223372036854775807) (A : Option Addr) (c : Nat) (xs : List Int) (hl : xs.length ≤ 1099511627776) (w : World) (hr : Rd .u8 w A xs) :
    Calls Try.prog 83 #[.int .i64 n, .slice A xs.length c] w fun e w' => (∃ v, e = .returned v ∧ w'.ownsRow w.heap.size 5 1 v (coreB n xs).length ((coreB n xs).map (.int .u8))) ∧ Below w.heap.size w w' := by
  obtain ⟨i0, hi, hz0, hz1, hz2⟩ := info_parts info_u8
  have hvl := intW_length n h1 h2
  have hvr := rawW_length xs (by omega)
  have HI := Lib.hid (RInt_any n h1 h2 w)
  have Hr := Lib.hid hr
  clear hr
  go_enter Try.func83, Try.ntmps83
  go_wp2_with (fail)
  refine HI.out.mono ?_
  rintro e w1 ⟨⟨v, rfl, ho⟩, hb⟩
  obtain ⟨A1, c1, rfl⟩ := own_slice' ho
  have Ho := Lib.hid ho
  have Hb := Lib.hid hb
  have HR := Lib.hid (RRaw_any A c xs (by omega) w1 (Hr.out.below hb (Nat.le_refl _)))
  have hs1 := hb.size
  clear ho hb HI Hr
  go_wp2_with (fail)
  refine HR.out.mono ?_
  rintro e w2 ⟨⟨v, rfl, ho⟩, hb⟩
  obtain ⟨A2, c2, rfl⟩ := own_slice' ho
  have Ho2 := Lib.hid (own_kp Ho.out (Kp.of_below (S := fun _ => False) hb) (fun _ _ e => e))
  have Hr2 := Lib.hid (Rd.of_own ho)
  have Hb2 := Lib.hid (Hb.out.trans (hb.mono hs1))
  have hs2 := hb.size
  clear ho hb HR Ho Hb
  go_wp2_with (at_builtin; refine wpList_append_rd .u8 rfl _ _ 23 rfl w.heap.size 5 i0 (.int .u8 0) 1 Try.underlying23 hi hz0 hz1 hz2 rfl _ _ _ _ rfl Ho2.out A2 _ c2 (rawW xs) rfl rfl Hr2.out (by unfold maxLen; omega) (by omega) (by omega) ?_; intro A3 c3 w3 hown' _ _ hb1; have Hown := Lib.hid hown'; have Hb1 := Lib.hid hb1; clear hown' hb1)
  go_ret
  exact ⟨⟨_, rfl, own_cast Hown.out (by unfold coreB; simp) (by unfold coreB; simp)⟩, Hb2.out.trans Hb1.out⟩

set_option maxHeartbeats 1000000 in
theorem RFrame_any (n : Int) (h1 : -9223372036854775808 ≤ n) (h2 : n ≤ 9223372036854775807) (A : Option Addr) (c : Nat) (xs : List Int) (hx : Byt xs) (hl : xs.length ≤ 1099511627776) (w : World) (hr : Rd .u8 w A xs) :
    Calls Try.prog 41 #[.int .i64 n, .slice A xs.length c] w fun e w' => (∃ v, e = .returned v ∧ w'.ownsRow w.heap.size 5 1 v (frameB n xs).length ((frameB n xs).map (.int .u8))) ∧ Below w.heap.size w w' := by
  obtain ⟨i0, hi, hz0, hz1, hz2⟩ := info_parts info_u8
  have hcl := coreB_length n xs h1 h2 (by omega)
  have hrl := rawW_length (coreB n xs) (by omega)
  have hcb := coreB_byt (n := n) hx
  have hvl := varN_length (hashN recLbl (coreB n xs)) (hashN_lt _ _)
  have HC := Lib.hid (RCore_any n h1 h2 A c xs hl w hr)
  obtain ⟨C, hC⟩ : ∃ C, C = coreB n xs := ⟨_, rfl⟩
  rw [← hC] at HC hcl hrl hcb hvl
  have HCe := Lib.hid hC
  have Hcb := Lib.hid hcb
  clear hr hC hcb
  go_enter Try.func41, Try.ntmps41
  go_wp2_with (fail)
  refine HC.out.mono ?_
  rintro e w1 ⟨⟨v, rfl, ho⟩, hb⟩
  obtain ⟨A1, c1, rfl⟩ := own_slice' ho
  have Hb := Lib.hid hb
  have Hr1 := Lib.hid (Rd.of_own ho)
  have HR := Lib.hid (RRaw_any A1 c1 C (by omega) w1 (Rd.of_own ho))
  have hs1 := hb.size
  clear ho hb HC
  go_wp2_with (fail)
  refine HR.out.mono ?_
  rintro e w2 ⟨⟨v, rfl, ho⟩, hb⟩
  obtain ⟨A2, c2, rfl⟩ := own_slice' ho
  have Ho2 := Lib.hid ho
  have Hb2 := Lib.hid (Hb.out.trans (hb.mono hs1))
  have hs2 := hb.size
  have hlb : strI ⟨#[114, 101, 99, 111, 114, 100]⟩ = recLbl := by decide
  have hH := RBytes_any ⟨#[114, 101, 99, 111, 114, 100]⟩ (by decide) A1 c1 C Hcb.out (by omega) w2 (Hr1.out.below hb (Nat.le_refl _))
  rw [hlb, hashN_eq] at hH
  have HH := Lib.hid hH
  clear ho hb HR Hr1 hH hlb Hb
  go_wp2_with (fail)
  refine HH.out.mono ?_
  rintro e w3 ⟨rfl, hb⟩
  have Ho3 := Lib.hid (own_kp Ho2.out (Kp.of_below (S := fun _ => False) hb) (fun _ _ e => e))
  have Hb3 := Lib.hid (Hb2.out.trans (hb.mono Hb2.out.size))
  have hs3 := hb.size
  have HU := Lib.hid (RUint_any (hashN recLbl C) (hashN_lt _ _) w3)
  clear hb HH Ho2 Hb2
  go_wp2_with (fail)
  refine HU.out.mono ?_
  rintro e w4 ⟨⟨v, rfl, ho⟩, hb⟩
  obtain ⟨A4, c4, rfl⟩ := own_slice' ho
  have Hr4 := Lib.hid (Rd.of_own ho)
  have Ho4 := Lib.hid (own_kp Ho3.out (Kp.of_below (S := fun _ => False) hb) (fun _ _ e => e))
  have Hb4 := Lib.hid (Hb3.out.trans (hb.mono Hb3.out.size))
  have hs4 := hb.size
  clear ho hb HU Ho3 Hb3
  go_wp2_with (at_builtin; refine wpList_append_rd .u8 rfl _ _ 23 rfl w1.heap.size 5 i0 (.int .u8 0) 1 Try.underlying23 hi hz0 hz1 hz2 rfl _ _ _ _ rfl Ho4.out A4 _ c4 (varN (hashN recLbl C)) rfl rfl Hr4.out (by unfold maxLen; omega) (by omega) (by omega) ?_; intro A5 c5 w5 hown' _ _ hb1; have Hown := Lib.hid hown'; have Hb1 := Lib.hid hb1; clear hown' hb1)
  go_ret
  exact ⟨⟨_, rfl, own_to (own_cast Hown.out (by unfold frameB; rw [← HCe.out]; simp) (by unfold frameB; rw [← HCe.out]; simp)) hs1⟩, Hb4.out.trans (Hb1.out.mono hs1)⟩
end Go.Proofs.Ytajdkcpcgfipbaa
