/- journal.record: the record whose frame may be at the beginning of some bytes. -/
import Derived.Test.YtajdkcpcgfipbaaJrnA
namespace Go.Proofs.Ytajdkcpcgfipbaa
open Go.RowKit Go.Wm
attribute [local go_sem] min_int max_int

set_option maxRecDepth 100000 in
set_option maxHeartbeats 1000000 in
theorem record_any (A : Option Addr) (c : Nat) (ys : List Int) (hy : Byt ys) (hc : ys.length ≤ c) (hl : ys.length ≤ 1099511627776) (w : World) (hr : Rd .u8 w A ys) :
    Calls Try.prog 114 #[.slice A ys.length c] w fun e w' => (∃ v, e = .returned v ∧ w'.ownsRow w.heap.size 5 1 v (recordB ys).length ((recordB ys).map (.int .u8))) ∧ Below w.heap.size w w' := by
  have Hr := Lib.hid hr
  clear hr
  go_enter Try.func114, Try.ntmps114
  obtain ⟨m1, hm1⟩ : ∃ m : Nat, m = min ys.length 10 := ⟨_, rfl⟩
  have e1 : mnI (ys.length : Int) 10 = (m1 : Int) := by rw [hm1]; exact mnI_nat _ 10
  have l1 : (ys.take 10).length = m1 := by rw [hm1, List.length_take, Nat.min_comm]
  have hm1' : m1 ≤ ys.length ∧ m1 ≤ 10 := by omega
  have hR1 := Hr.out.take 10
  have hT1 := Read_any A c (ys.take 10) (by omega) w hR1
  rw [l1] at hT1
  have HT1 := Lib.hid hT1
  clear hT1 hR1 l1 hm1
  go_wp2_with (fail)
  refine HT1.out.mono ?_
  rintro e W1 ⟨⟨g1, rfl, hg1, hR1⟩, hb1⟩
  go_wp2_with (fail)
  refine (UintR_ok _ g1 (ys.take 10) (hy.take 10) (by simp; omega) W1 hR1).mono ?_
  rintro e W2 ⟨rfl, hR2, hk2⟩
  have hs1 := hb1.size
  have hs2 := hk2.size
  have hB2 : Below w.heap.size w W2 := hb1.trans (hk2.below (by omega) (fun k e => by rw [e]; exact hg1))
  clear hR1 hR2
  obtain ⟨L, hL⟩ : ∃ L : Nat, L = (rU 0 0 (ys.take 10)).1 := ⟨_, rfl⟩
  rw [← hL]
  obtain ⟨m2, hm2⟩ : ∃ m : Nat, m = min L ys.length := ⟨_, rfl⟩
  obtain ⟨m3, hm3⟩ : ∃ m : Nat, m = min ys.length (10 + m2) := ⟨_, rfl⟩
  have e2 : mnI (L : Int) (ys.length : Int) = (m2 : Int) := by rw [hm2]; exact mnI_nat _ _
  have e3 : mnI (ys.length : Int) (10 + (m2 : Int)) = (m3 : Int) := by rw [hm3]; exact mnI_nat _ (10 + m2)
  have hm2' : m2 ≤ ys.length := by omega
  have hm3' : m3 ≤ ys.length := by omega
  have hcut : m3 = cutN ys := by rw [hm3, hm2, hL]; rfl
  have Hcut := Lib.hid hcut
  have HL := Lib.hid hL
  clear hL hm2 hm3 hcut
  have l3 : (ys.take m3).length = m3 := by simp; omega
  have hT3 := Read_any A c (ys.take m3) (by omega) W2 ((Hr.out.below hB2 (Nat.le_refl _)).take m3)
  rw [l3] at hT3
  have HT3 := Lib.hid hT3
  clear hT3
  go_wp2_with (fail)
  refine HT3.out.mono ?_
  rintro e W3 ⟨⟨g3, rfl, hg3, hR3⟩, hb3⟩
  have HR3 := Lib.hid hR3
  clear hR3
  have hs3 := hb3.size
  have hB3 : Below w.heap.size w W3 := hB2.trans (hb3.mono (by omega))
  go_wp2_with (fail)
  refine (RawR_ok _ g3 (ys.take m3) (hy.take m3) (by omega) W3 HR3.out).mono ?_
  rintro e W4 ⟨⟨v4, rfl, ho4⟩, hR4, hk4⟩
  have hs4 := hk4.size
  have hB4 : Below w.heap.size w W4 := hB3.trans (hk4.below (by omega) (fun k e => by rw [e]; omega))
  have hraw := rRaw_len (ys.take m3)
  have hrawb := rRaw_byt (hy.take m3)
  have HE := Lib.hid (show recordB ys = innerB (rRaw (ys.take m3)).1 from by rw [Hcut.out]; rfl)
  obtain ⟨raw, hrw⟩ : ∃ raw, raw = (rRaw (ys.take m3)).1 := ⟨_, rfl⟩
  rw [← hrw] at ho4 hraw hrawb
  have Hrw := Lib.hid hrw
  clear hR4 hrw
  obtain ⟨A4, c4, rfl⟩ := own_slice' ho4
  have hr4 := Lib.hid (Rd.of_own ho4)
  clear ho4
  go_wp2_with (fail)
  refine (Read_any A4 c4 raw (by omega) W4 hr4.out).mono ?_
  rintro e W5 ⟨⟨g5, rfl, hg5, hR5⟩, hb5⟩
  have hs5 := hb5.size
  have hB5 : Below w.heap.size w W5 := hB4.trans (hb5.mono (by omega))
  have HR5 := Lib.hid hR5
  clear hR5
  go_wp2_with (fail)
  refine (IntR_ok _ g5 raw hrawb (by omega) W5 HR5.out).mono ?_
  rintro e W6 ⟨rfl, hR6, hk6⟩
  have hs6 := hk6.size
  have hB6 : Below w.heap.size w W6 := hB5.trans (hk6.below (by omega) (fun k e => by rw [e]; omega))
  have hsfx := rU_suffix (k := 0) (acc := 0) (xs := raw) rfl
  have hsl := hsfx.length_le
  obtain ⟨rest, hrest⟩ : ∃ r, r = (rU 0 0 raw).2.1 := ⟨_, rfl⟩
  obtain ⟨e6, he6⟩ : ∃ r, r = (rU 0 0 raw).2.2 := ⟨_, rfl⟩
  have hrb : Byt rest := by rw [hrest]; exact hrawb.suffix hsfx
  rw [← hrest, ← he6] at hR6
  rw [← hrest] at hsl
  have HR6 := Lib.hid hR6
  have Hrest := Lib.hid hrest
  have He6 := Lib.hid he6
  clear hR6 hrest he6 hsfx
  by_cases h0 : e6 = 0
  · subst h0
    go_wp2_with (fail)
    refine (RawR_ok _ g5 rest hrb (by omega) W6 HR6.out).mono ?_
    rintro e W7 ⟨⟨v7, rfl, ho7⟩, hR7, hk7⟩
    have hB7 : Below w.heap.size w W7 := hB6.trans (hk7.below (by omega) (fun k e => by rw [e]; omega))
    have HF := Lib.hid (show recordB ys = (rRaw rest).1 from by rw [HE.out, ← Hrw.out]; unfold innerB; rw [← He6.out, ← Hrest.out]; simp)
    have Ho7 := Lib.hid (own_to (base' := w.heap.size) ho7 (by omega))
    clear ho7 hR7
    go_wp2
    go_ret
    exact ⟨⟨v7, rfl, by rw [HF.out]; exact Ho7.out⟩, hB7⟩
  · go_wp2_with (fail)
    refine (RawR_err _ g5 rest e6 h0 W6 HR6.out).mono ?_
    rintro e W7 ⟨rfl, rfl⟩
    have HF := Lib.hid (show recordB ys = [] from by rw [HE.out, ← Hrw.out]; unfold innerB; rw [← He6.out, if_neg h0])
    go_wp2
    go_ret
    exact ⟨⟨_, rfl, by rw [HF.out]; exact World.ownsRow_nil _ _ _ _⟩, hB6⟩
end Go.Proofs.Ytajdkcpcgfipbaa
