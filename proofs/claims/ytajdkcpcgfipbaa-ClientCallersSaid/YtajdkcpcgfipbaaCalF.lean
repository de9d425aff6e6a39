/- The reference's Body: some bytes of a number. -/
import Derived.Test.YtajdkcpcgfipbaaCalE
namespace Go.Proofs.Ytajdkcpcgfipbaa
open Go.RowKit Go.Wm

theorem tdiv64_range (n : Int) (h1 : -9223372036854775808 ≤ n) (h2 : n ≤ 9223372036854775807) : -9223372036854775808 ≤ n.tdiv 64 ∧ n.tdiv 64 ≤ 9223372036854775807 := by
  by_cases h : 0 ≤ n
  · rw [Int.tdiv_eq_ediv_of_nonneg h]; omega
  · obtain ⟨m, rfl⟩ : ∃ m : Nat, n = -(m : Int) := ⟨n.natAbs, by omega⟩
    rw [Int.neg_tdiv, Int.tdiv_eq_ediv_of_nonneg (by omega)]; omega
theorem made_bytes (n : Nat) : (madeCells #[Value.int .u8 0] n).toList = (List.replicate n (0 : Int)).map (Value.int .u8) := by
  apply List.ext_getElem
  · simp [madeCells]
  · intro j h1 h2
    simp [madeCells, Nat.mod_one]
set_option maxRecDepth 100000 in
set_option maxHeartbeats 1000000 in
theorem Body_any (n : Int) (hn : I64 n) (w : World) :
    Calls Try.prog 31 #[.int .i64 n] w fun e w' => (∃ A c b, e = .returned (.slice A b.length c) ∧ ByS w' (.slice A b.length c) b ∧ Byt b ∧ b.length ≤ 65538) ∧ Below w.heap.size w w' := by
  obtain ⟨i0, hi, hz0, hz1, hz2⟩ := info_parts info_u8
  have hni := (i64_iff _).1 hn
  have HA := Lib.hid (Around_any n 64 hni.1 hni.2 (by decide) (by decide) w)
  obtain ⟨k0, k1⟩ := aroundI_range n 64 (by decide)
  obtain ⟨k, hk⟩ : ∃ k, k = aroundI n 64 := ⟨_, rfl⟩
  rw [← hk] at HA k0 k1
  clear hk hn
  by_cases h63 : k = 63
  · subst h63
    go_enter Try.func31, Try.ntmps31
    go_wp2_with (fail)
    refine HA.out.mono ?_
    rintro e w1 ⟨rfl, rfl⟩
    have hq := tdiv64_range n hni.1 hni.2
    have HB := Lib.hid (Around_any (n.tdiv 64) 4 hq.1 hq.2 (by decide) (by decide) w)
    obtain ⟨t0, t1⟩ := aroundI_range (n.tdiv 64) 4 (by decide)
    obtain ⟨t, ht⟩ : ∃ t, t = aroundI (n.tdiv 64) 4 := ⟨_, rfl⟩
    rw [← ht] at HB t0 t1
    obtain ⟨L, hL⟩ : ∃ L : Nat, 65535 + t = (L : Int) := ⟨(65535 + t).toNat, by omega⟩
    have hLl : L ≤ 65538 := by omega
    have hmk : (Instr.makeSlice 23 (.int .i64 (L : Int)) (.int .i64 (L : Int))).run Try.prog w = .ok (.slice (some ⟨w.heap.size, 0, none⟩) L L) (w.alloc (.cells (madeCells #[.int .u8 0] (L * 1)) 5)) := by
      have := run_make (P := Try.prog) w 23 5 i0 _ Try.underlying23 hi hz0 .i64 .i64 (L : Int) (L : Int) (by omega) (Int.le_refl _) (by rw [hz2]; omega) (by omega)
      rw [hz1, Int.toNat_natCast] at this
      exact this
    clear ht HA k0 k1
    go_wp2_with (fail)
    refine HB.out.mono ?_
    rintro e w2 ⟨rfl, rfl⟩
    go_wp2_with (fail)
    go_ret
    have ho := World.ownsRow_lit (base := w.heap.size) (e := 5) (size := 1) w (madeCells #[.int .u8 0] L) L (Nat.le_refl _) (by unfold maxLen; omega) (by rw [size_madeCells]; omega)
    exact ⟨⟨some ⟨w.heap.size, 0, none⟩, L, List.replicate L 0, by rw [List.length_replicate]; rfl, ⟨_, by rw [List.length_replicate, ← made_bytes]; exact ho⟩, fun x hx => by rw [List.eq_of_mem_replicate hx]; omega, by rw [List.length_replicate]; exact hLl⟩, (Below.refl _ _).alloc (Nat.le_refl _) _⟩
  · obtain ⟨kn, rfl⟩ : ∃ kn : Nat, k = kn := ⟨k.toNat, (Int.toNat_of_nonneg k0).symm⟩
    have hd : ((kn : Int) == 63) = false := by simp; omega
    obtain ⟨rm, hrm⟩ : ∃ rm : Nat, (kn : Int).tmod 4 = (rm : Int) := ⟨kn % 4, by rw [Int.tmod_eq_emod_of_nonneg (by omega)]; omega⟩
    obtain ⟨qd, hqd⟩ : ∃ qd : Nat, (kn : Int).tdiv 4 = (qd : Int) := ⟨kn / 4, by rw [Int.tdiv_eq_ediv_of_nonneg (by omega)]; omega⟩
    have hr3 : rm ≤ 3 := by rw [Int.tmod_eq_emod_of_nonneg (by omega)] at hrm; omega
    have hq3 : qd ≤ 15 := by rw [Int.tdiv_eq_ediv_of_nonneg (by omega)] at hqd; omega
    clear h63
    go_enter Try.func31, Try.ntmps31
    go_wp2_with (fail)
    refine HA.out.mono ?_
    rintro e w1 ⟨rfl, rfl⟩
    go_wp2_with (fail)
    go_loopw [4, 5] (fun v i wr => ∃ (j : Nat) (xs : List Int) (A0 : Option Addr) (c0 : Nat), i = .int .i64 j ∧ j ≤ 3 ∧ v = .slice A0 j c0 ∧ xs.length = j ∧ Byt xs ∧ wr.ownsRow w.heap.size 5 1 (.slice A0 j c0) j (xs.map (.int .u8)) ∧ Below w.heap.size w wr) (fun _ i _ => 4 - (intOf i).toNat)
    case atStart => exact ⟨0, [], none, 0, rfl, by omega, rfl, rfl, Byt.nil, World.ownsRow_nil _ _ _ _, Below.refl _ _⟩
    case round =>
      obtain ⟨j, xs, A0, c0, rfl, hj, rfl, hxl, hxb, hrow, hB⟩ := hrel
      have Hrow := Lib.hid hrow
      have HB := Lib.hid hB
      have Hxb := Lib.hid hxb
      have Hxl := Lib.hid hxl
      clear hrow hB hxb hxl
      by_cases hlt : j < rm
      · have hd2 : decide ((j : Int) < (rm : Int)) = true := decide_eq_true (by omega)
        have hlit := Lib.hid (Rd.lit .u8 wr 5 [(qd : Int) + (j : Int)])
        go_wp2_with (at_builtin; refine wpList_append_rd .u8 rfl _ _ 23 rfl w.heap.size 5 i0 (.int .u8 0) 1 Try.underlying23 hi hz0 hz1 hz2 rfl _ _ _ _ rfl (Hrow.out.alloc _) (some ⟨wr.heap.size, 0, none⟩) 1 1 [(qd : Int) + (j : Int)] rfl rfl hlit.out (by unfold maxLen; omega) (by omega) (by have := HB.out.size; simp; omega) ?_; intro A1 c1 w1 hown' _ _ hb1; have Hown := Lib.hid hown'; have Hb1 := Lib.hid hb1; clear hown' hb1)
        refine ⟨⟨j + 1, xs ++ [(qd : Int) + (j : Int)], A1, c1, by go_num, by omega, rfl, by rw [List.length_append, Hxl.out]; rfl, Hxb.out.append (Byt.nil.cons ⟨by omega, by omega⟩), by rw [List.map_append]; exact Hown.out, (HB.out.alloc HB.out.size _).trans Hb1.out⟩, by simp [intOf]; omega⟩
      · have hd2 : decide ((j : Int) < (rm : Int)) = false := decide_eq_false (by omega)
        go_wp2_with (fail)
        go_ret
        exact ⟨⟨A0, c0, xs, by rw [Hxl.out]; rfl, ⟨_, by rw [Hxl.out]; exact Hrow.out⟩, Hxb.out, by rw [Hxl.out]; omega⟩, HB.out⟩
end Go.Proofs.Ytajdkcpcgfipbaa
