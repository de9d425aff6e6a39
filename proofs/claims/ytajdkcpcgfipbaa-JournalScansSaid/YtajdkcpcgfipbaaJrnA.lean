/- journal.Frame returns the frame's bytes in memory of its own. -/
import Derived.Test.YtajdkcpcgfipbaaWireD
import Derived.Test.YtajdkcpcgfipbaaPureC
import Derived.Test.YtajdkcpcgfipbaaMemB
namespace Go.Proofs.Ytajdkcpcgfipbaa
open Go.RowKit Go.Wm

set_option maxRecDepth 100000 in
set_option maxHeartbeats 1000000 in
theorem Frame_any (n : Int) (h1 : -9223372036854775808 ≤ n) (h2 : n ≤ 9223372036854775807) (A : Option Addr) (c : Nat) (ys : List Int) (hy : Byt ys) (hl : ys.length ≤ 1099511627776) (w : World) (hr : Rd .u8 w A ys) :
    Calls Try.prog 40 #[.int .i64 n, .slice A ys.length c] w fun e w' => (∃ v, e = .returned v ∧ w'.ownsRow w.heap.size 5 1 v (frameB n ys).length ((frameB n ys).map (.int .u8))) ∧ Below w.heap.size w w' := by
  have Hr := Lib.hid hr
  clear hr
  have hcl := coreB_length n ys h1 h2 (by omega)
  have hcr := rawW_length (coreB n ys) (by omega)
  have hrl := rawW_length ys (by omega)
  have hil := intW_length n h1 h2
  go_enter Try.func40, Try.ntmps40
  go_wp2_with (fail)
  obtain ⟨W0, hW0⟩ : ∃ W0, (w.alloc (.cells #[.slice none 0 0] 69)).alloc (.cells #[.slice none 0 0] 69) = W0 := ⟨_, rfl⟩
  have hs0 : W0.heap.size = w.heap.size + 2 := by rw [← hW0]; simp
  have hB0 : Below w.heap.size w W0 := by rw [← hW0]; exact ((Below.refl _ w).alloc (Nat.le_refl _) _).alloc (by simp) _
  have hwc : Wr w.heap.size W0 w.heap.size none [] := by
    rw [← hW0]
    exact ⟨Nat.le_refl _, by simp; omega, _, (Boxed.new w _ _).alloc _, World.ownsRow_nil _ _ _ _, rfl⟩
  have hww : Wr w.heap.size W0 (w.heap.size + 1) none [] := by
    rw [← hW0]
    have := Boxed.new (w.alloc (.cells #[.slice none 0 0] 69)) 69 (.slice none 0 0)
    rw [World.size_alloc] at this
    exact ⟨by omega, by simp; omega, _, this, World.ownsRow_nil _ _ _ _, rfl⟩
  rw [hW0]
  refine (WInt_any w.heap.size w.heap.size none [] n h1 h2 (by simp) W0 hwc).mono ?_
  rintro e W1 ⟨rfl, ⟨r1, hwc1, hn1⟩, hk1⟩
  simp only [List.nil_append] at hwc1
  have hww1 : Wr w.heap.size W1 (w.heap.size + 1) none [] := hww.kp hk1 (by simp) (fun b e => by cases e)
  have hB1 : Below w.heap.size w W1 := hB0.trans (hk1.below (by omega) (fun k e => by rcases e with rfl | e; exact Nat.le_refl _; cases e))
  have hg1 := hn1.none_ge
  clear hwc hww hW0
  go_wp2_with (fail)
  refine (WRaw_any w.heap.size w.heap.size r1 (intW n) A c ys hy (by omega) (by omega) W1 hwc1 (Hr.out.below hB1 (Nat.le_refl _))).mono ?_
  rintro e W2 ⟨rfl, ⟨r2, hwc2, hn2⟩, hk2⟩
  have hs1 := hk1.size
  have hs2 := hk2.size
  have hww2 : Wr w.heap.size W2 (w.heap.size + 1) none [] := hww1.kp hk2 (by rintro (e | e); omega; have := hg1 _ e.symm; omega) (fun b e => by cases e)
  have hB2 : Below w.heap.size w W2 := hB1.trans (hk2.below (by omega) (fun k e => by rcases e with rfl | e; exact Nat.le_refl _; have := hg1 _ e.symm; omega))
  have hg2 : ∀ b, r2 = some b → W0.heap.size ≤ b := (hn1.step hs1 hn2).none_ge
  clear hwc1 hww1
  go_wp2_with (fail)
  refine (WDone_any w.heap.size w.heap.size r2 (coreB n ys) (by omega) W2 hwc2).mono ?_
  rintro e W3 ⟨⟨v3, rfl, ho3⟩, hb3⟩
  obtain ⟨A3, c3, rfl⟩ := own_slice' ho3
  have hr3 := Lib.hid (Rd.of_own ho3)
  have hs3 := hb3.size
  have hwc3 := hwc2.kp (Kp.of_below (S := fun _ => False) hb3) (fun e => e) (fun _ _ e => e)
  have hww3 := hww2.kp (Kp.of_below (S := fun _ => False) hb3) (fun e => e) (fun _ _ e => e)
  have hB3 : Below w.heap.size w W3 := hB2.trans (hb3.mono (by omega))
  clear ho3 hwc2 hww2
  go_wp2_with (fail)
  refine (WRaw_any w.heap.size (w.heap.size + 1) none [] A3 c3 (coreB n ys) (coreB_byt hy) (by omega) (by simp) W3 hww3 hr3.out).mono ?_
  rintro e W4 ⟨rfl, ⟨r4, hww4, hn4⟩, hk4⟩
  simp only [List.nil_append] at hww4
  have hs4 := hk4.size
  have hwc4 := hwc3.kp hk4 (by simp) (by rintro b e (rfl | h); have := hg2 _ e; omega; cases h)
  have hB4 : Below w.heap.size w W4 := hB3.trans (hk4.below (by omega) (fun k e => by rcases e with rfl | e; omega; cases e))
  have hg4 := hn4.none_ge
  clear hwc3 hww3
  go_wp2_with (fail)
  refine (WDone_any w.heap.size w.heap.size r2 (coreB n ys) (by omega) W4 hwc4).mono ?_
  rintro e W5 ⟨⟨v5, rfl, ho5⟩, hb5⟩
  obtain ⟨A5, c5, rfl⟩ := own_slice' ho5
  have hr5 := Lib.hid (Rd.of_own ho5)
  have hs5 := hb5.size
  have hww5 := hww4.kp (Kp.of_below (S := fun _ => False) hb5) (fun e => e) (fun _ _ e => e)
  have hB5 : Below w.heap.size w W5 := hB4.trans (hb5.mono (by omega))
  clear ho5 hwc4 hww4
  have hlb : strI ⟨#[114, 101, 99, 111, 114, 100]⟩ = recLbl := by decide
  have HB := Bytes_any ⟨#[114, 101, 99, 111, 114, 100]⟩ (by decide) A5 c5 (coreB n ys) (coreB_byt hy) (by omega) W5 hr5.out
  rw [hlb, hashN_eq] at HB
  clear hlb
  go_wp2_with (fail)
  refine HB.mono ?_
  rintro e W6 ⟨rfl, hb6⟩
  have hs6 := hb6.size
  have hww6 := hww5.kp (Kp.of_below (S := fun _ => False) hb6) (fun e => e) (fun _ _ e => e)
  have hB6 : Below w.heap.size w W6 := hB5.trans (hb6.mono (by omega))
  clear hww5 HB
  go_wp2_with (fail)
  refine (WUint_any w.heap.size (w.heap.size + 1) r4 (rawW (coreB n ys)) (hashN recLbl (coreB n ys)) (hashN_lt _ _) (by omega) W6 hww6).mono ?_
  rintro e W7 ⟨rfl, ⟨r7, hww7, hn7⟩, hk7⟩
  have hs7 := hk7.size
  have hB7 : Below w.heap.size w W7 := hB6.trans (hk7.below (by omega) (fun k e => by rcases e with rfl | e; omega; have := hg4 _ e.symm; omega))
  have hfl := frameB_length n ys h1 h2 (by omega)
  clear hww6
  go_wp2_with (fail)
  refine (WDone_any w.heap.size (w.heap.size + 1) r7 (frameB n ys) (by omega) W7 hww7).mono ?_
  rintro e W8 ⟨⟨v8, rfl, ho8⟩, hb8⟩
  have Ho8 := Lib.hid (own_to (base' := w.heap.size) ho8 (by omega))
  have HB8 : Below w.heap.size w W8 := hB7.trans (hb8.mono (by omega))
  clear ho8
  go_wp2
  go_ret
  exact ⟨⟨v8, rfl, Ho8.out⟩, HB8⟩
end Go.Proofs.Ytajdkcpcgfipbaa
