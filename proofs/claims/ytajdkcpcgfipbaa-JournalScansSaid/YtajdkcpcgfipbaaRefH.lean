/- The reference model's Records: some lists of some bytes. -/
import Derived.Test.YtajdkcpcgfipbaaRefG
namespace Go.Proofs.Ytajdkcpcgfipbaa
open Go.RowKit Go.Wm
attribute [local go_sem] min_int max_int

set_option maxRecDepth 100000 in
set_option maxHeartbeats 2000000 in
theorem Records_any (A : Option Addr) (c : Nat) (ls : List Int) (hw : ∀ n ∈ ls, -9223372036854775808 ≤ n ∧ n ≤ 9223372036854775807) (hl : ls.length ≤ 9223372036854775807) (w : World) (hr : Rd .i64 w A ls) :
    Calls Try.prog 42 #[.slice A ls.length c] w fun e w' => (∃ (A' : Option Addr) (c' : Nat) (ys : List (Value × List Int)), e = .returned (.slice A' ys.length c') ∧ OwL w' w.heap.size 23 5 (.slice A' ys.length c') ys ∧ ys.length ≤ 6 ∧ ∀ t ∈ ys, t.2.length ≤ 10 ∧ Byt t.2) ∧ Below w.heap.size w w' := by
  obtain ⟨i0, hi, hz0, hz1, hz2⟩ := info_parts info_bs
  obtain ⟨j0, hj, hy0, hy1, hy2⟩ := info_parts info_u8
  have Hr := Lib.hid hr
  have Hw := Lib.hid hw
  clear hr hw
  go_enter Try.func42, Try.ntmps42
  go_wp2
  go_loopw [3, 4] (fun v i wr => ∃ (k : Nat) (ys : List (Value × List Int)) (A0 : Option Addr) (c0 : Nat), v = .slice A0 k c0 ∧ i = .int .i64 k ∧ k ≤ 6 ∧ k ≤ ls.length ∧ k = ys.length ∧ OwL wr w.heap.size 23 5 (.slice A0 k c0) ys ∧ (∀ t ∈ ys, t.2.length ≤ 10 ∧ Byt t.2) ∧ Below w.heap.size w wr) (fun _ i _ => 7 - (intOf i).toNat)
  case atStart => exact ⟨0, [], none, 0, rfl, rfl, by omega, by omega, rfl, ⟨World.ownsRow_nil _ _ _ _, by simp⟩, by simp, Below.refl _ _⟩
  case round =>
    obtain ⟨k, ys, A0, c0, rfl, rfl, hk6, hkl, hky, how, hys, hB⟩ := hrel
    have Hky := Lib.hid hky
    have How := Lib.hid how
    have Hys := Lib.hid hys
    have HB := Lib.hid hB
    have hwr := hB.size
    clear hky how hys hB
    by_cases hlt : k < ls.length ∧ k < 6
    · obtain ⟨hlt1, hlt2⟩ := hlt
      have hd : decide ((k : Int) < (ls.length : Int)) = true := decide_eq_true (by omega)
      have hd6 : decide ((k : Int) < 6) = true := decide_eq_true (by omega)
      obtain ⟨b, off, hA, hbl, hcs⟩ := Hr.out.resolve_left (by intro e; rw [e] at hlt1; simp at hlt1)
      subst hA
      have hcell := (HB.out.cell (p := ⟨b, off + k, none⟩) hbl).trans (hcs k hlt1)
      obtain ⟨v, hv⟩ : ∃ v, v = ls[k]?.getD 0 := ⟨_, rfl⟩
      rw [← hv] at hcell
      have hvb : -9223372036854775808 ≤ v ∧ v ≤ 9223372036854775807 := by
        rw [hv, List.getElem?_eq_getElem hlt1]; exact Hw.out _ (List.getElem_mem _)
      have HA := Lib.hid (Around_any v 1000 hvb.1 hvb.2 (by omega) (by omega) wr)
      obtain ⟨q1, q2⟩ := aroundI_range v 1000 (by omega)
      obtain ⟨n, hn⟩ := Int.eq_ofNat_of_zero_le q1
      rw [hn] at HA q2
      clear hcs hv q1 hn
      go_wp2_with (fail)
      refine HA.out.mono ?_
      rintro e w' ⟨rfl, rfl⟩
      clear HA
      obtain ⟨W1, hW1⟩ : ∃ W1, W1 = wr := ⟨_, rfl⟩
      subst hW1
      go_wp2
      go_loopw [6, 7] (fun v i wr' => ∃ (t : Nat) (A1 : Option Addr) (c1 : Nat) (y : List Int), v = .slice A1 t c1 ∧ i = .int .i64 t ∧ t ≤ n % 11 ∧ t = y.length ∧ Byt y ∧ wr'.ownsRow W1.heap.size 5 1 (.slice A1 t c1) t (y.map (.int .u8)) ∧ Below W1.heap.size W1 wr') (fun _ i _ => 11 - (intOf i).toNat)
      case atStart => exact ⟨0, none, 0, [], rfl, rfl, by omega, rfl, Byt.nil, World.ownsRow_nil _ _ _ _, Below.refl _ _⟩
      case round =>
        obtain ⟨t, A1, c1, y, rfl, rfl, ht, hty, hyb, hrow1, hB1⟩ := hrel
        have Hty := Lib.hid hty
        have Hyb := Lib.hid hyb
        have Hrow1 := Lib.hid hrow1
        have HB1 := Lib.hid hB1
        have hwr1 := hB1.size
        clear hty hyb hrow1 hB1
        by_cases hlt3 : t < n % 11
        · have hd3 : decide ((t : Int) < (n : Int) % 11) = true := decide_eq_true (by omega)
          obtain ⟨p, hp⟩ : ∃ p : Nat, p = t * n := ⟨_, rfl⟩
          have hpp : (t : Int) * (n : Int) = (p : Int) := by rw [hp]; push_cast; rfl
          have hpb : p ≤ 11000 := by rw [hp]; exact Nat.le_trans (Nat.mul_le_mul (show t ≤ 11 by omega) (show n ≤ 1000 by omega)) (by decide)
          have Hp := Lib.hid hp
          clear hp
          obtain ⟨x, hx⟩ : ∃ x : Int, x = ((n : Int) / 11 + (p : Int)) % 256 := ⟨_, rfl⟩
          have hxb : 0 ≤ x ∧ x < 256 := by omega
          have hlit := Lib.hid (Rd.lit .u8 wr 5 [x])
          rw [hx] at hlit
          go_wp2_with (at_builtin; refine wpList_append_rd .u8 rfl _ _ 23 rfl W1.heap.size 5 j0 (.int .u8 0) 1 Try.underlying23 hj hy0 hy1 hy2 rfl _ _ _ _ rfl (Hrow1.out.alloc _) (some ⟨wr.heap.size, 0, none⟩) 1 1 [((n : Int) / 11 + (p : Int)) % 256] rfl rfl hlit.out (by unfold maxLen; omega) (by omega) (by simp; omega) ?_; intro A2 c2 w2 hown' _ _ hb2; have Hown := Lib.hid hown'; have Hb2 := Lib.hid hb2; clear hown' hb2)
          rw [← hx] at Hown
          exact ⟨⟨t + 1, A2, c2, y ++ [x], rfl, by go_num, by omega, by simp [← Hty.out], Hyb.out.append (Byt.cons hxb Byt.nil), own_cast Hown.out rfl (by rw [List.map_append]), (HB1.out.alloc hwr1 _).trans Hb2.out⟩, by simp [intOf]; omega⟩
        · have hd3 : decide ((t : Int) < (n : Int) % 11) = false := decide_eq_false (by omega)
          have hB2 := HB.out.trans (HB1.out.mono HB.out.size)
          have How2 := Lib.hid (How.out.kpF (Kp.of_below (S := fun _ => False) HB1.out))
          have HB2 := Lib.hid hB2
          clear hB2
          go_wp2_with (at_builtin; refine wpList_append_own_at _ rfl _ _ 61 rfl w.heap.size 23 i0 (.slice none 0 0) 1 24 Try.underlying61 hi hz0 hz1 hz2 rfl (by decide) _ _ _ rfl ((own_cast How2.out.1 Hky.out.symm rfl).alloc _) ⟨wr.heap.size, 0, none⟩ 1 1 [.slice A1 t c1] rfl rfl (cell_one_new _ _ _) (by simp [Value.oneCell']) (by unfold maxLen; omega) (by omega) (by simp; omega) ?_; intro v' w3 hown' hgrow _ hat; obtain ⟨g', cap', rfl⟩ := ownsRow_succ hown'; have Hown := Lib.hid hown'; have Hgrow := Lib.hid hgrow; clear hown' hgrow hat)
          have hg : (wr.alloc (.cells #[.slice A1 t c1] 23)).grownBy w3 (Value.slice A0 k c0).ownBlock := Hgrow.out
          have hkp3 : Kp (fun k' => some k' = (Value.slice A0 k c0).ownBlock) wr w3 := ((Kp.refl _ wr).alloc _).trans (Kp.of_grown (S := fun k' => some k' = (Value.slice A0 k c0).ownBlock) hg (fun k e => e.symm)) (fun _ _ e => e)
          have hty := Hty.out
          subst hty
          refine ⟨⟨k + 1, ys ++ [(.slice A1 y.length c1, y)], some ⟨g', 0, none⟩, cap', rfl, by go_num, by omega, by omega, by rw [List.length_append, ← Hky.out]; rfl, How2.out.snoc (by decide) hkp3 (own_cast Hown.out (by rw [Hky.out]) rfl) Hrow1.out, ?_, HB2.out.trans (hkp3.below (by omega) (fun b e => (How2.out.1.lt b e.symm).1))⟩, by simp [intOf]; omega⟩
          intro q hq
          rcases List.mem_append.1 hq with hq | hq
          · exact Hys.out q hq
          · rw [List.mem_singleton.1 hq]; exact ⟨by show y.length ≤ 10; omega, Hyb.out⟩
    · by_cases hlt1 : k < ls.length
      · have hd : decide ((k : Int) < (ls.length : Int)) = true := decide_eq_true (by omega)
        obtain rfl : k = 6 := by omega
        go_wp2
        go_ret
        exact ⟨⟨A0, c0, ys, by rw [← Hky.out]; rfl, by rw [← Hky.out]; exact How.out, by rw [← Hky.out]; omega, Hys.out⟩, HB.out⟩
      · have hd : decide ((k : Int) < (ls.length : Int)) = false := decide_eq_false (by omega)
        go_wp2
        go_ret
        exact ⟨⟨A0, c0, ys, by rw [← Hky.out]; rfl, by rw [← Hky.out]; exact How.out, by rw [← Hky.out]; omega, Hys.out⟩, HB.out⟩
end Go.Proofs.Ytajdkcpcgfipbaa
