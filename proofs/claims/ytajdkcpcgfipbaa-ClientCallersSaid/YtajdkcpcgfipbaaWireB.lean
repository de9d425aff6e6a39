/- The writer of package wire: Int, Text, Raw, Done. -/
import Derived.Test.YtajdkcpcgfipbaaWireA
import Derived.WalkArith
namespace Go.Proofs.Ytajdkcpcgfipbaa
open Go.RowKit Go.Wm

theorem Wr.rd {base g : Nat} {w : World} {r : Option Nat} {xs : List Int} (h : Wr base w g r xs) : ∃ A c, w.cell? ⟨g, 0, none⟩ = some (.slice A xs.length c) ∧ Rd .u8 w A xs ∧ w.frozen? ⟨g, 0, none⟩ = false := by
  obtain ⟨_, _, v, hv, hrow, rfl⟩ := h
  rcases hrow.2 with ⟨rfl, h0⟩ | ⟨b, cap, cur, rfl, _⟩
  · refine ⟨none, 0, ?_, ?_, hv.frozen⟩
    · rw [hv.cell, h0]
    · exact .inl (List.eq_nil_of_length_eq_zero h0)
  · exact ⟨_, cap, hv.cell, Rd.of_own hrow, hv.frozen⟩
theorem Wr.kp {S : Nat → Prop} {base g : Nat} {w w' : World} {r : Option Nat} {xs : List Int} (h : Wr base w g r xs) (k : Kp S w w') (hg : ¬ S g) (hr : ∀ b, r = some b → ¬ S b) : Wr base w' g r xs := by
  obtain ⟨h1, h2, v, hv, hrow, rfl⟩ := h
  exact ⟨h1, Nat.le_trans h2 k.size, v, hv.kp k hg, own_kp hrow k hr, rfl⟩
theorem Wr.new (w : World) : Wr w.heap.size (w.alloc (.cells #[.slice none 0 0] 69)) w.heap.size none [] :=
  ⟨Nat.le_refl _, by simp, _, Boxed.new w _ _, World.ownsRow_nil _ _ _ _, rfl⟩

set_option maxHeartbeats 400000 in
theorem WInt_any (base g : Nat) (r : Option Nat) (xs : List Int) (n : Int) (h1 : -9223372036854775808 ≤ n) (h2 : n ≤ 9223372036854775807) (hl : xs.length ≤ 70368744177664) (w : World) (hw : Wr base w g r xs) :
    Calls Try.prog 47 #[.pointer (some ⟨g, 0, none⟩), .int .i64 n] w fun e w' => e = .returned (.tuple #[]) ∧ (∃ r', Wr base w' g r' (xs ++ intW n) ∧ Nx w r r') ∧ Kp (fun k => k = g ∨ some k = r) w w' := by
  have hz := Lib.hid (zigI_eq n h1 h2)
  go_enter Try.func47, Try.ntmps47
  go_wp2_with (fail)
  refine (zigzag_any n w).mono ?_
  rintro e w' ⟨rfl, rfl⟩
  rw [hz.out]
  go_wp2_with (fail)
  refine (WUint_any base g r xs (zigN n) (zigN_lt n h1 h2) hl w hw).mono ?_
  rintro e w' ⟨rfl, hq, hk⟩
  have Hq := Lib.hid hq
  clear hq
  go_wp2
  go_end0
  exact ⟨rfl, Hq.out, hk⟩

set_option maxRecDepth 100000 in
set_option maxHeartbeats 400000 in
theorem WText_any (base g : Nat) (r : Option Nat) (xs : List Int) (s : ByteArray) (hs : s.size ≤ 70368744177000) (hl : xs.length ≤ 17592186044416) (w : World) (hw : Wr base w g r xs) :
    Calls Try.prog 89 #[.pointer (some ⟨g, 0, none⟩), .string s] w fun e w' => e = .returned (.tuple #[]) ∧ (∃ r', Wr base w' g r' (xs ++ rawW (strI s)) ∧ Nx w r r') ∧ Kp (fun k => k = g ∨ some k = r) w w' := by
  obtain ⟨i0, hi, hz0, hz1, hz2⟩ := info_parts info_u8
  have hvl := varN_length s.size (by omega)
  go_enter Try.func89, Try.ntmps89
  go_wp2_with (fail)
  refine (WUint_any base g r xs s.size (by omega) (by omega) w hw).mono ?_
  rintro e w1 ⟨rfl, ⟨r1, ⟨hbg, hbs, v, hv, hrow, rfl⟩, hnx⟩, hk⟩
  have hc := hv.cell
  have Hv := Lib.hid hv
  have Hrow := Lib.hid hrow
  clear hv hrow
  go_wp2_with (at_builtin; refine wpList_append_string_at rfl _ _ 23 9 rfl base 5 i0 Try.underlying23 Try.underlying9 hi hz0 hz1 hz2 v _ _ rfl Hrow.out s rfl (by unfold maxLen; simp; omega) (by simp; omega) hbs ?_; intro v' w2 hown' hgrow hat; have Hg := Lib.hid hgrow; have Ho := Lib.hid hown'; have Ha := Lib.hid hat; obtain ⟨A', c', hve⟩ := own_slice' hown'; subst hve; have hb2 := (Hv.out.kept hgrow (Hv.out.not_row (by decide) Hrow.out)); have hc2 := hb2.cell; have hf2 := hb2.frozen; have Hb2 := Lib.hid hb2; clear hgrow hown' hat hb2)
  go_end0
  have Ho2 := Ho.out.kept (grownBy_setCell' w2 g (.slice A' (xs.length + (varN s.size).length + s.size) c')) (.inr (by have := (Hb2.out.not_row (by decide) Ho.out).symm; simpa using this))
  exact ⟨rfl, ⟨_, ⟨hbg, by have := Hg.out.size; simp [World.setCell]; omega, _, Hb2.out.set _, by simpa [rawW, strI_length, strCells_eq, Nat.add_assoc] using Ho2, rfl⟩, hnx.step hk.size (by simpa using Ha.out)⟩,
    (hk.trans (Kp.of_grown (S := fun k => some k = v.ownBlock) Hg.out (fun k e => e.symm)) (fun j hj e => Or.inr (hnx.old hj e))).set (p := ⟨g, 0, none⟩) (fun _ => Or.inl rfl) _⟩

set_option maxRecDepth 100000 in
set_option maxHeartbeats 400000 in
theorem WRaw_any (base g : Nat) (r : Option Nat) (xs : List Int) (A : Option Addr) (c : Nat) (ys : List Int) (hy : Byt ys) (hs : ys.length ≤ 70368744177000) (hl : xs.length ≤ 17592186044416) (w : World) (hw : Wr base w g r xs) (hr : Rd .u8 w A ys) :
    Calls Try.prog 48 #[.pointer (some ⟨g, 0, none⟩), .slice A ys.length c] w fun e w' => e = .returned (.tuple #[]) ∧ (∃ r', Wr base w' g r' (xs ++ rawW ys) ∧ Nx w r r') ∧ Kp (fun k => k = g ∨ some k = r) w w' := by
  have hcv := hr.conv (P := Try.prog) (c := c) 23 9 5 Try.underlying23 Try.underlying5 Try.underlying9
  have Hr := Lib.hid hr
  clear hr
  go_enter Try.func48, Try.ntmps48
  go_wp2_with (fail)
  refine (WText_any base g r xs (strOfNums ys) (by rw [strOfNums_size]; exact hs) hl w hw).mono ?_
  rintro e w1 ⟨rfl, hq, hk⟩
  rw [strI_of_nums hy] at hq
  have Hq := Lib.hid hq
  clear hq
  go_wp2
  go_end0
  exact ⟨rfl, Hq.out, hk⟩

set_option maxRecDepth 100000 in
set_option maxHeartbeats 400000 in
theorem WDone_any (base g : Nat) (r : Option Nat) (xs : List Int) (hl : xs.length ≤ 140737488351232) (w : World) (hw : Wr base w g r xs) :
    Calls Try.prog 49 #[.pointer (some ⟨g, 0, none⟩)] w fun e w' => (∃ v, e = .returned v ∧ w'.ownsRow w.heap.size 5 1 v xs.length (xs.map (.int .u8))) ∧ Below w.heap.size w w' := by
  obtain ⟨A, c, hc, hr, hf⟩ := hw.rd
  have Hr := Lib.hid hr
  clear hr hw
  go_enter Try.func49, Try.ntmps49
  go_wp2_with (fail)
  refine (Clone_any A c xs hl w Hr.out).mono ?_
  rintro e w1 ⟨⟨v, rfl, ho⟩, hb⟩
  have Ho := Lib.hid ho
  clear ho
  go_wp2
  go_ret
  exact ⟨⟨v, rfl, Ho.out⟩, hb⟩
end Go.Proofs.Ytajdkcpcgfipbaa
