/- slices.Clone of bytes; the varint of a number as package wire writes it. -/
import Derived.Test.YtajdkcpcgfipbaaHashB
import Derived.WalkSpells
import Derived.WalkLawsBesides
import Derived.Laws.AppendOwnNone
import Derived.Lib.SliceRun
namespace Go.Proofs.Ytajdkcpcgfipbaa
open Go.RowKit Go.Wm

theorem info_u8 : (Try.prog.info? 5).map (fun i => (i.zero, i.size, i.bytes)) = some (some (.int .u8 0), 1, 1) := by kernel_rfl

set_option maxRecDepth 100000 in
set_option maxHeartbeats 400000 in
theorem Clone_nil (n c : Nat) (w : World) :
    Calls Try.prog 74 #[.slice none n c] w fun e w' => e = .returned (.slice none 0 0) ∧ w = w' := by
  have heq := fun w => Lib.run_eql_slice_nil (P := Try.prog) w 23 5 none n c 0 0 Try.underlying23
  go_enter Try.func74, Try.ntmps74
  go_wp2
  go_ret
  exact ⟨rfl, rfl⟩

set_option maxRecDepth 100000 in
set_option maxHeartbeats 400000 in
theorem Clone_some (ad : Addr) (c : Nat) (xs : List Int) (hl : xs.length ≤ 140737488351232) (w : World) (hr : Rd .u8 w (some ad) xs) :
    Calls Try.prog 74 #[.slice (some ad) xs.length c] w fun e w' => (∃ v, e = .returned v ∧ w'.ownsRow w.heap.size 5 1 v xs.length (xs.map (.int .u8))) ∧ Below w.heap.size w w' := by
  obtain ⟨i0, hi, hz0, hz1, hz2⟩ := info_parts info_u8
  have heq := fun w => Lib.run_eql_slice_nil (P := Try.prog) w 23 5 (some ad) xs.length c 0 0 Try.underlying23
  have hr' := Lib.hid hr
  clear hr
  go_enter Try.func74, Try.ntmps74
  have hown := World.ownsRow_made (base := w.heap.size) (e := 5) (size := 1) w #[] 0 (Nat.le_refl _) (by simp) (by simp)
  go_wp2_with (at_builtin; refine wpList_append_own _ rfl _ _ 23 rfl w.heap.size 5 i0 (.int .u8 0) 1 1 Try.underlying23 hi hz0 hz1 hz2 rfl (by decide) _ _ _ rfl hown ad xs.length c (xs.map (.int .u8)) rfl (by simp) (hr'.out.alloc _).news (ones _ _) (by unfold maxLen; omega) (by omega) (by simp) ?_; intro v' w1 hown' hgrow _; have Hown := Lib.hid hown'; have Hgrow := Lib.hid hgrow; clear hown' hgrow)
  go_ret
  exact ⟨⟨_, rfl, by simpa using Hown.out⟩, ((Below.refl _ w).alloc (Nat.le_refl _) _).grown Hgrow.out (by simp) (fun k ek => Nat.le_of_eq (by simpa [Act.eval, Value.ownBlock] using ek))⟩

/-- slices.Clone of bytes: a slice of the call's own with the same bytes. -/
theorem Clone_any (A : Option Addr) (c : Nat) (xs : List Int) (hl : xs.length ≤ 140737488351232) (w : World) (hr : Rd .u8 w A xs) :
    Calls Try.prog 74 #[.slice A xs.length c] w fun e w' => (∃ v, e = .returned v ∧ w'.ownsRow w.heap.size 5 1 v xs.length (xs.map (.int .u8))) ∧ Below w.heap.size w w' := by
  cases A with
  | none =>
    rcases hr with rfl | ⟨_, _, h, _⟩
    · refine (Clone_nil _ c w).mono ?_
      rintro e w' ⟨rfl, rfl⟩
      exact ⟨⟨_, rfl, World.ownsRow_nil _ _ _ _⟩, Below.refl _ _⟩
    · cases h
  | some ad => exact Clone_some ad c xs hl w hr

set_option maxHeartbeats 400000 in
theorem zigzag_any (n : Int) (w : World) :
    Calls Try.prog 88 #[.int .i64 n] w fun e w' => e = .returned (.int .u64 (zigI n)) ∧ w = w' := by
  go_enter Try.func88, Try.ntmps88
  go_wp2
  go_ret
  exact ⟨rfl, rfl⟩

/-- THE WRITER AT BLOCK g HAS WRITTEN xs; its row is r; both lie from base on. -/
def Wr (base : Nat) (w : World) (g : Nat) (r : Option Nat) (xs : List Int) : Prop :=
  base ≤ g ∧ base ≤ w.heap.size ∧ ∃ v, Boxed w g 69 v ∧ w.ownsRow base 5 1 v xs.length (xs.map (.int .u8)) ∧ v.ownBlock = r

set_option maxRecDepth 100000 in
set_option maxHeartbeats 1000000 in
theorem WUint_any (base g : Nat) (r : Option Nat) (xs : List Int) (n : Nat) (hn : n < 18446744073709551616) (hl : xs.length ≤ 70368744177664) (w : World) (hw : Wr base w g r xs) :
    Calls Try.prog 50 #[.pointer (some ⟨g, 0, none⟩), .int .u64 n] w fun e w' => e = .returned (.tuple #[]) ∧ (∃ r', Wr base w' g r' (xs ++ varN n) ∧ Nx w r r') ∧ Kp (fun k => k = g ∨ some k = r) w w' := by
  obtain ⟨i0, hi, hz0, hz1, hz2⟩ := info_parts info_u8
  obtain ⟨hbg, hbs, v0, hv0, hrow0, hr0⟩ := hw
  have hvl := varN_length n hn
  go_enter Try.func50, Try.ntmps50
  go_wp2
  go_loopw [1] (fun a wr => ∃ (m : Nat) (pre : List Int), a = .int .u64 m ∧ m < 18446744073709551616 ∧ varN n = pre ++ varN m ∧ (∃ v, Boxed wr g 69 v ∧ wr.ownsRow base 5 1 v (xs.length + pre.length) (xs.map (.int .u8) ++ pre.map (.int .u8)) ∧ Nx w r v.ownBlock) ∧ Kp (fun k => k = g ∨ some k = r) w wr)
    (fun a _ => (intOf a).toNat)
  case atStart => exact ⟨n, [], rfl, hn, rfl, ⟨v0, hv0, by simpa using hrow0, .inl hr0⟩, Kp.refl _ _⟩
  case round =>
    obtain ⟨m, pre, rfl, hm, hpre, ⟨v, hv, hrow, hnx⟩, hkp⟩ := hrel
    have hc := hv.cell
    have hbsr := Nat.le_trans hbs hkp.size
    have hpl : xs.length + pre.length ≤ 70368744177674 := by
      have := congrArg List.length hpre
      simp only [List.length_append] at this
      omega
    have hv' := Lib.hid hv
    have hrow' := Lib.hid hrow
    have hpre' := Lib.hid hpre
    clear hv hrow hpre hv0 hrow0 hr0
    by_cases hlt : m < 128
    · have hbyte : IntKind.u8.wrap (m : Int) = m := by rw [IntKind.wrap_u8']; omega
      have hvar := Lib.hid (varN_small hlt)
      go_wp2_with (at_builtin; refine wpList_append_own_at _ rfl _ _ 23 rfl base 5 i0 (.int .u8 0) 1 1 Try.underlying23 hi hz0 hz1 hz2 rfl (by decide) _ _ _ rfl (hrow'.out.alloc _) ⟨wr.heap.size, 0, none⟩ 1 1 [.int .u8 m] rfl rfl (cell_one_new _ _ _) (by simp [Value.oneCell']) (by unfold maxLen; omega) (by omega) (by simp; omega) ?_; intro v' w1 hown' hgrow _ hat; obtain ⟨g', cap', rfl⟩ := ownsRow_succ hown'; obtain ⟨hv1, hv2, hr2, hk2, hb2⟩ := hv'.out.appended (by decide) hrow'.out hbsr hbg hown' hgrow; have hc1 := hv1.cell; have hf1 := hv1.frozen)
      have Hr2 := Lib.hid hr2
      have Hhat := Lib.hid hat
      have Hgrow := Lib.hid hgrow
      clear hr2 hat hgrow hown' hbyte
      go_end0
      have e : xs ++ varN n = (xs ++ pre) ++ [(m : Int)] := by rw [hpre'.out, hvar.out, List.append_assoc]
      exact ⟨rfl, ⟨_, ⟨hbg, Nat.le_trans hbsr (by have := hb2.size; exact this), _, hv2, by rw [e]; simpa [Nat.add_assoc] using Hr2.out, rfl⟩, hnx.of_at (W := wr.alloc _) (by have := hkp.size; simp; omega) Hhat.out⟩,
        ((hkp.alloc _).trans (Kp.of_grown (S := fun k => some k = v.ownBlock) Hgrow.out (fun k e => e.symm)) (fun j hj e => Or.inr (hnx.old hj e))).set (p := ⟨g, 0, none⟩) (fun _ => Or.inl rfl) _⟩
    · have hvar := Lib.hid (varN_big hlt)
      obtain ⟨b, hb⟩ : ∃ b : Nat, b = m % 128 + 128 := ⟨_, rfl⟩
      obtain ⟨m', hm'⟩ : ∃ m' : Nat, m' = m / 128 := ⟨_, rfl⟩
      have hor : bits .or .u8 ((m : Int) % 256) 128 = (b : Int) := by rw [← IntKind.wrap_u8', or128, hb]
      have hsh : (m : Int) / 128 = (m' : Int) := by omega
      have hm1 : m' < m := by omega
      have Hb := Lib.hid hb
      have Hm' := Lib.hid hm'
      clear hb hm'
      go_wp2_with (at_builtin; refine wpList_append_own_at _ rfl _ _ 23 rfl base 5 i0 (.int .u8 0) 1 1 Try.underlying23 hi hz0 hz1 hz2 rfl (by decide) _ _ _ rfl (hrow'.out.alloc _) ⟨wr.heap.size, 0, none⟩ 1 1 [.int .u8 b] rfl rfl (cell_one_new _ _ _) (by simp [Value.oneCell']) (by unfold maxLen; omega) (by omega) (by simp; omega) ?_; intro v' w1 hown' hgrow _ hat; obtain ⟨g', cap', rfl⟩ := ownsRow_succ hown'; obtain ⟨hv1, hv2, hr2, hk2, hb2⟩ := hv'.out.appended (by decide) hrow'.out hbsr hbg hown' hgrow; have hc1 := hv1.cell; have hf1 := hv1.frozen; have Hr2 := Lib.hid hr2; have Hv2 := Lib.hid hv2; have Hhat := Lib.hid hat; have Hgrow := Lib.hid hgrow; clear hr2 hv2 hat hgrow hown')
      go_roundw
      case rel =>
        have e : varN n = (pre ++ [(b : Int)]) ++ varN m' := by rw [hpre'.out, hvar.out, Hb.out, Hm'.out, List.append_assoc]; rfl
        exact ⟨m', pre ++ [(b : Int)], rfl, by omega, e, ⟨_, Hv2.out, by simpa [Nat.add_assoc] using Hr2.out, hnx.of_at (W := wr.alloc _) (by have := hkp.size; simp; omega) Hhat.out⟩,
          ((hkp.alloc _).trans (Kp.of_grown (S := fun k => some k = v.ownBlock) Hgrow.out (fun k e => e.symm)) (fun j hj e => Or.inr (hnx.old hj e))).set (p := ⟨g, 0, none⟩) (fun _ => Or.inl rfl) _⟩
      case measure => simp [intOf]; omega
end Go.Proofs.Ytajdkcpcgfipbaa
