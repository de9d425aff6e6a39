/- The reader of the reference model: what its Uint, Int and Raw read. -/
import Derived.Test.YtajdkcpcgfipbaaRefC
import Derived.Test.YtajdkcpcgfipbaaPureF
namespace Go.Proofs.Ytajdkcpcgfipbaa
open Go.RowKit Go.Wm
attribute [local go_sem] min_int max_int

/-- THE REFERENCE MODEL's READER AT BLOCK g: the bytes xs are left, e is its error; the block of the bytes satisfies P. -/
def RRdr (P : Nat → Prop) (w : World) (g : Nat) (xs : List Int) (e : Int) : Prop :=
  ∃ A c, w.heap[g]? = some (.cells #[.slice A xs.length c, .int .i64 e] 174 (0, 0)) ∧ Rd .u8 w A xs ∧ xs.length ≤ c ∧ (xs = [] ∨ ∀ a, A = some a → P a.block)
theorem RRdr.make {w : World} {g : Nat} {A : Option Addr} {c : Nat} {xs : List Int} {e : Int} (hg : w.heap[g]? = some (.cells #[.slice A xs.length c, .int .i64 e] 174 (0, 0))) (hr : Rd .u8 w A xs) (hc : xs.length ≤ c) : RRdr (fun k => k < w.heap.size) w g xs e := by
  refine ⟨A, c, hg, hr, hc, ?_⟩
  rcases hr with h | ⟨b, off, rfl, hb, _⟩
  · exact .inl h
  · exact .inr (fun a ea => by cases ea; exact hb)
theorem RRdr.home {P : Nat → Prop} {w : World} {g : Nat} {xs : List Int} {e : Int} (h : RRdr P w g xs e) : RRdr (fun k => k < w.heap.size) w g xs e := by
  obtain ⟨A, c, hg, hr, hc, _⟩ := h
  refine ⟨A, c, hg, hr, hc, ?_⟩
  rcases hr with h | ⟨b, off, rfl, hb, _⟩
  · exact .inl h
  · exact .inr (fun a ea => by cases ea; exact hb)
theorem RRdr.lift {P P' : Nat → Prop} {w : World} {g : Nat} {xs : List Int} {e : Int} (h : RRdr P w g xs e) (hB : ∀ k, P k → P' k) : RRdr P' w g xs e := by
  obtain ⟨A, c, hg, hr, hc, hd⟩ := h
  exact ⟨A, c, hg, hr, hc, hd.imp id (fun q a ea => hB _ (q a ea))⟩
theorem RRdr.lt {P : Nat → Prop} {w : World} {g : Nat} {xs : List Int} {e : Int} (h : RRdr P w g xs e) : g < w.heap.size := by
  obtain ⟨A, c, hg, _⟩ := h
  exact (Array.getElem?_eq_some_iff.1 hg).1
theorem RRdr.below {P : Nat → Prop} {w w' : World} {g : Nat} {xs : List Int} {e : Int} (h : RRdr P w g xs e) (hB : Below w.heap.size w w') : RRdr P w' g xs e := by
  obtain ⟨A, c, hg, hr, hc, hd⟩ := h
  exact ⟨A, c, (hB.block g (Array.getElem?_eq_some_iff.1 hg).1).trans hg, hr.below hB (Nat.le_refl _), hc, hd⟩
theorem RRdr.kp {S P : Nat → Prop} {w w' : World} {g : Nat} {xs : List Int} {e : Int} (h : RRdr P w g xs e) (k : Kp S w w') (hg : ¬ S g) (hS : ∀ b, P b → ¬ S b) : RRdr P w' g xs e := by
  obtain ⟨A, c, hb, hr, hc, hd⟩ := h
  refine ⟨A, c, (k.block g (Array.getElem?_eq_some_iff.1 hb).1 hg).trans hb, ?_, hc, hd⟩
  rcases hd with hd | hd
  · exact .inl hd
  · exact hr.kp k (fun a ea => hS _ (hd a ea))
theorem RRdr.set_e {P : Nat → Prop} {w : World} {g : Nat} {xs : List Int} {e : Int} (h : RRdr P w g xs e) (e' : Int) : RRdr P (w.setCell ⟨g, 1, none⟩ (.int .i64 e')) g xs e' := by
  obtain ⟨A, c, hg, hr, hc, hd⟩ := h
  refine ⟨A, c, ?_, ?_, hc, hd⟩
  · simp only [World.setCell, Array.getElem?_modify, hg]; rfl
  · rcases rd_ne hg hr with h | h
    · exact .inl h
    · exact hr.kp ((Kp.refl (fun k => k = g) w).set (p := ⟨g, 1, none⟩) (fun _ => rfl) _) h
theorem RRdr.cells {P : Nat → Prop} {w : World} {g : Nat} {xs : List Int} {e : Int} (h : RRdr P w g xs e) : w.cell? ⟨g, 1, none⟩ = some (.int .i64 e) ∧ w.frozen? ⟨g, 1, none⟩ = false ∧ w.frozen? ⟨g, 0, none⟩ = false := by
  obtain ⟨A, c, hg, hr, hc, hd⟩ := h
  simp [World.cell?, World.frozen?, hg]
theorem RRdr.cell0 {P : Nat → Prop} {w : World} {g : Nat} {xs : List Int} {e : Int} (h : RRdr P w g xs e) : ∃ A c, w.cell? ⟨g, 0, none⟩ = some (.slice A xs.length c) ∧ Rd .u8 w A xs ∧ xs.length ≤ c := by
  obtain ⟨A, c, hg, hr, hc, hd⟩ := h
  exact ⟨A, c, by simp [World.cell?, hg], hr, hc⟩

theorem RRdr.set_b {P : Nat → Prop} {w : World} {g : Nat} {xs ys : List Int} {e : Int} (h : RRdr P w g xs e) {A : Option Addr} {l c : Nat} (hl : l = ys.length) (hr : Rd .u8 w A ys) (hc : l ≤ c) (hd : ys = [] ∨ ∀ a, A = some a → P a.block) : RRdr P (w.setCell ⟨g, 0, none⟩ (.slice A l c)) g ys e := by
  subst hl
  obtain ⟨A0, c0, hg, hr0, hc0, _⟩ := h
  refine ⟨A, c, ?_, ?_, hc, hd⟩
  · simp only [World.setCell, Array.getElem?_modify, hg]; rfl
  · rcases rd_ne hg hr with h | h
    · exact .inl h
    · exact hr.kp ((Kp.refl (fun k => k = g) w).set (p := ⟨g, 0, none⟩) (fun _ => rfl) _) h

/-- the reference model's Uint: what it returns, what is left, the error -/
def rrU (xs : List Int) : Nat × List Int × Int := if (rU 0 0 xs).2.2 = 0 then rU 0 0 xs else (0, xs, (rU 0 0 xs).2.2)

set_option maxRecDepth 100000 in
set_option maxHeartbeats 2000000 in
theorem RUintR_ok (P : Nat → Prop) (g : Nat) (xs : List Int) (hx : Byt xs) (hl : xs.length < 140737488351232) (w : World) (h : RRdr P w g xs 0) :
    Calls Try.prog 125 #[.pointer (some ⟨g, 0, none⟩)] w fun r w' => r = .returned (.int .u64 (rrU xs).1) ∧ RRdr P w' g (rrU xs).2.1 (rrU xs).2.2 ∧ Kp (fun k => k = g) w w' := by
  have H := Lib.hid h
  have Hx := Lib.hid hx
  obtain ⟨A, c, hg, hr, hc, hd⟩ := h
  have hg0 : w.cell? ⟨g, 0, none⟩ = some (.slice A xs.length c) := by simp [World.cell?, hg]
  have hg1 : w.cell? ⟨g, 1, none⟩ = some (.int .i64 0) := by simp [World.cell?, hg]
  have hf0 : w.frozen? ⟨g, 0, none⟩ = false := by simp [World.frozen?, hg]
  have hf1 : w.frozen? ⟨g, 1, none⟩ = false := by simp [World.frozen?, hg]
  have Hr := Lib.hid hr
  have Hd := Lib.hid hd
  clear hg hr hd hx
  go_enter Try.func125, Try.ntmps125
  go_wp2
  go_loop [3, 4, 5] (fun n u i => ∃ k acc U : Nat, i = .int .i64 k ∧ n = .int .u64 acc ∧ u = .int .u64 U ∧ k ≤ 9 ∧ k ≤ xs.length ∧ U = 128 ^ k ∧ acc < 128 ^ k ∧ rU 0 0 xs = rU k acc (xs.drop k))
    (fun _ _ i => xs.length - (intOf i).toNat)
  case atStart => exact ⟨0, 0, 1, rfl, rfl, rfl, by omega, by omega, rfl, by omega, by simp⟩
  case round =>
    obtain ⟨k, acc, U, rfl, rfl, rfl, hk9, hkl, hU, hacc, hrel⟩ := hrel
    have HU := Lib.hid hU
    have Hacc := Lib.hid hacc
    have Hrel := Lib.hid hrel
    clear hU hacc hrel
    by_cases hlt : k < xs.length
    · have hge : decide ((xs.length : Int) ≤ (k : Int)) = false := decide_eq_false (by omega)
      have hgn : decide (xs.length ≤ k) = false := decide_eq_false (by omega)
      obtain ⟨b, off, hA, hbl, hcs⟩ : ∃ b off, A = some ⟨b, off, none⟩ ∧ b < w.heap.size ∧ ∀ j, j < xs.length → w.cell? ⟨b, off + j, none⟩ = some (.int .u8 (xs[j]?.getD 0)) := by
        rcases Hr.out with h | h
        · rw [h] at hlt; simp at hlt
        · exact h
      subst hA
      have hcell := hcs k hlt
      clear hcs
      obtain ⟨x, hx⟩ : ∃ x, x = xs[k]?.getD 0 := ⟨_, rfl⟩
      rw [← hx] at hcell
      have hxb : 0 ≤ x ∧ x < 256 := by rw [hx]; exact Hx.out.get _
      have hdr : xs.drop k = x :: xs.drop (k + 1) := by rw [List.drop_eq_getElem_cons hlt, hx, List.getElem?_eq_getElem hlt]; rfl
      have Hdr := Lib.hid hdr
      have Hxx := Lib.hid hx
      clear hdr hx
      by_cases hbad : (k = 9 ∧ 1 < x) ∨ (0 < k ∧ x = 0)
      · have hrr : rrU xs = (0, xs, 2) := by
          have e : rU 0 0 xs = (0, xs.drop (k + 1), 2) := by rw [Hrel.out, Hdr.out, rU, if_pos hbad]
          unfold rrU; rw [e]; rfl
        have Hrr := Lib.hid hrr
        have H2 := Lib.hid (H.out.set_e 2)
        clear hrr
        by_cases h9 : k = 9
        · subst h9
          have hge9 : decide ((xs.length : Int) ≤ 9) = false := decide_eq_false (by omega)
          rcases hbad with ⟨_, hx1⟩ | ⟨_, hx0⟩
          · have f1 : decide (1 < x) = true := decide_eq_true hx1
            go_wp2
            go_ret
            rw [Hrr.out]
            exact ⟨rfl, H2.out, (Kp.refl (fun k => k = g) w).set (p := ⟨g, 1, none⟩) (fun _ => rfl) _⟩
          · subst hx0
            go_wp2
            go_ret
            rw [Hrr.out]
            exact ⟨rfl, H2.out, (Kp.refl (fun k => k = g) w).set (p := ⟨g, 1, none⟩) (fun _ => rfl) _⟩
        · have f9 : ((k : Int) == 9) = false := by simp; omega
          obtain ⟨hk0, hx0⟩ := hbad.resolve_left (fun h => h9 h.1)
          subst hx0
          have f0 : decide (0 < (k : Int)) = true := decide_eq_true (by omega)
          clear hbad
          go_wp2
          go_ret
          rw [Hrr.out]
          exact ⟨rfl, H2.out, (Kp.refl (fun k => k = g) w).set (p := ⟨g, 1, none⟩) (fun _ => rfl) _⟩
      · obtain ⟨y, hy⟩ : ∃ y : Nat, y = x.toNat % 128 := ⟨_, rfl⟩
        have hyx : x % 128 = (y : Int) := by omega
        obtain ⟨Pm, hPm⟩ : ∃ Pm : Nat, Pm = y * U := ⟨_, rfl⟩
        have hyU : (y : Int) * (U : Int) = (Pm : Int) := by rw [hPm]; push_cast; rfl
        have hU8 : k < 9 → U ≤ 72057594037927936 := fun hk => by
          rw [HU.out]
          have d : ∀ i : Fin 9, 128 ^ i.val ≤ 72057594037927936 := by decide
          exact d ⟨k, hk⟩
        have hU9 : k = 9 → U = 9223372036854775808 := fun hk => by rw [HU.out, hk]
        have hy9 : k = 9 → y ≤ 1 := fun hk => by omega
        have hsum : acc + Pm < 18446744073709551616 := by
          have ha : acc < U := by rw [HU.out]; exact Hacc.out
          rw [hPm]
          by_cases h9 : k = 9
          · rw [hU9 h9] at ha ⊢; have := hy9 h9; omega
          · have h8 := hU8 (by omega)
            have : y * U ≤ 127 * U := Nat.mul_le_mul_right _ (by omega)
            omega
        have Hy := Lib.hid hy
        have HPm := Lib.hid hPm
        have Hbad := Lib.hid hbad
        obtain ⟨b9, b1, b0, bx, f9, f1, f0, fx, hcomb⟩ : ∃ b9 b1 b0 bx : Bool, ((k : Int) == 9) = b9 ∧ decide (1 < x) = b1 ∧ decide (0 < k) = b0 ∧ (x == 0) = bx ∧ ((b9 && b1) || (b0 && bx) || (b9 && !b0) || (b1 && bx)) = false := by
          refine ⟨_, _, _, _, rfl, rfl, rfl, rfl, ?_⟩
          simp only [Bool.or_eq_false_iff, Bool.and_eq_false_iff, beq_eq_false_iff_ne, decide_eq_false_iff_not, ne_eq, Bool.not_eq_false', decide_eq_true_eq]
          omega
        clear hy hPm hbad
        by_cases hx128 : x < 128
        · have hrr : rrU xs = (acc + Pm, xs.drop (k + 1), 0) := by
            have e : rU 0 0 xs = (acc + Pm, xs.drop (k + 1), 0) := by
              rw [Hrel.out, Hdr.out, rU, if_neg Hbad.out, if_pos hx128, HPm.out, HU.out, Hy.out]
              rw [show x.toNat % 128 = x.toNat from by omega]
            unfold rrU; rw [e]; rfl
          have Hrr := Lib.hid hrr
          have f128 : decide (x < 128) = true := decide_eq_true hx128
          have Hd2 := Lib.hid (Hd.out.resolve_left (by intro e; rw [e] at hlt; simp at hlt) _ rfl)
          clear hrr hU8 hU9 hy9
          by_cases hc1 : c = k + 1
          · have hxe : xs.drop (k + 1) = [] := List.drop_of_length_le (by omega)
            rw [hxe] at Hrr
            have hlk : xs.length = k + 1 := by omega
            have Hlk := Lib.hid hlk
            have Hc1 := Lib.hid hc1
            have hz1 : (xs.length : Int) - ((k : Int) + 1) = 0 := by omega
            have hz2 : (c : Int) - ((k : Int) + 1) = 0 := by omega
            clear hxe hlk hc1
            cases b9 <;> cases b1 <;> cases b0 <;> cases bx <;> first | (exact absurd hcomb (by decide)) | skip
            all_goals
              go_wp2
              go_ret
              rw [Hrr.out]
              exact ⟨by push_cast; rfl, H.out.set_b (by simp; omega) (.inl rfl) (by omega) (.inl rfl), (Kp.refl (fun k => k = g) w).set (p := ⟨g, 0, none⟩) (fun _ => rfl) _⟩
          · have hlen : (xs.drop (k + 1)).length = xs.length - (k + 1) := by simp
            have Hlen := Lib.hid hlen
            clear hlen
            cases b9 <;> cases b1 <;> cases b0 <;> cases bx <;> first | (exact absurd hcomb (by decide)) | skip
            all_goals
              go_wp2
              go_ret
              rw [Hrr.out]
              exact ⟨by push_cast; rfl, H.out.set_b (by rw [Hlen.out]) (Hr.out.drop (k + 1)) (by omega) (.inr (fun a ea => by cases ea; exact Hd2.out)), (Kp.refl (fun k => k = g) w).set (p := ⟨g, 0, none⟩) (fun _ => rfl) _⟩
        · have hk8 : k < 9 := by have := Hbad.out; omega
          have hUb := hU8 hk8
          have f128 : decide (x < 128) = false := decide_eq_false hx128
          clear hU8 hU9 hy9
          cases b9 <;> cases b1 <;> cases b0 <;> cases bx <;> first | (exact absurd hcomb (by decide)) | skip
          all_goals
            go_wp2
            exact ⟨⟨k + 1, acc + Pm, U * 128, by go_num, by push_cast; rfl, by push_cast; rfl, by omega, by omega, by rw [HU.out, Nat.pow_succ], by rw [HPm.out, HU.out]; exact uint_acc acc y k Hacc.out (by omega), by rw [Hrel.out, Hdr.out, rU, if_neg Hbad.out, if_neg hx128, HPm.out, HU.out, Hy.out]⟩, by simp [intOf]; omega⟩
    · have hrr : rrU xs = (0, xs, 3) := by
        have e : rU 0 0 xs = (0, [], 3) := by rw [Hrel.out, List.drop_of_length_le (by omega)]; rfl
        unfold rrU; rw [e]; rfl
      have hge : decide ((xs.length : Int) ≤ (k : Int)) = true := decide_eq_true (by omega)
      have Hrr := Lib.hid hrr
      have H2 := Lib.hid (H.out.set_e 3)
      clear hrr
      go_wp2
      go_ret
      rw [Hrr.out]
      exact ⟨rfl, H2.out, (Kp.refl (fun k => k = g) w).set (p := ⟨g, 1, none⟩) (fun _ => rfl) _⟩

set_option maxHeartbeats 400000 in
theorem RUintR_err (P : Nat → Prop) (g : Nat) (xs : List Int) (e : Int) (he : e ≠ 0) (w : World) (h : RRdr P w g xs e) :
    Calls Try.prog 125 #[.pointer (some ⟨g, 0, none⟩)] w fun r w' => r = .returned (.int .u64 0) ∧ w = w' := by
  obtain ⟨h1, h2, h3⟩ := h.cells
  have hb : (e == 0) = false := by simpa using he
  clear h
  go_enter Try.func125, Try.ntmps125
  go_wp2
  go_loop [3, 4, 5] (fun n u i => True) (fun _ _ i => 0)
  case atStart => trivial
  case round =>
    clear hrel
    go_wp2
    go_ret
    exact ⟨rfl, rfl⟩

set_option maxHeartbeats 400000 in
theorem Back_any (z : Int) (hz : 0 ≤ z ∧ z < 18446744073709551616) (w : World) :
    Calls Try.prog 124 #[.int .u64 z] w fun e w' => (∃ v, e = .returned (.int .i64 v)) ∧ w = w' := by
  go_enter Try.func124, Try.ntmps124
  by_cases h : z % 2 = 1
  · have hb : (z % 2 == 1) = true := by simpa using h
    go_wp2
    all_goals
      go_ret
      exact ⟨⟨_, rfl⟩, rfl⟩
  · have hb : (z % 2 == 1) = false := by simpa using h
    go_wp2
    all_goals
      go_ret
      exact ⟨⟨_, rfl⟩, rfl⟩

theorem rrU_lt (xs : List Int) (hx : Byt xs) : (rrU xs).1 < 18446744073709551616 := by
  unfold rrU
  split
  · exact rU_lt hx (by omega) (by omega)
  · simp
set_option maxHeartbeats 400000 in
theorem RIntR_ok (P : Nat → Prop) (g : Nat) (xs : List Int) (hx : Byt xs) (hl : xs.length < 140737488351232) (w : World) (h : RRdr P w g xs 0) :
    Calls Try.prog 117 #[.pointer (some ⟨g, 0, none⟩)] w fun r w' => (∃ v, r = .returned (.int .i64 v)) ∧ RRdr P w' g (rrU xs).2.1 (rrU xs).2.2 ∧ Kp (fun k => k = g) w w' := by
  have HU := Lib.hid (RUintR_ok P g xs hx hl w h)
  have hlt := rrU_lt xs hx
  clear h hx
  go_enter Try.func117, Try.ntmps117
  go_wp2_with (fail)
  refine HU.out.mono ?_
  rintro e w' ⟨rfl, hr, hk⟩
  have Hr := Lib.hid hr
  have Hk := Lib.hid hk
  clear hr hk HU
  go_wp2_with (fail)
  refine (Back_any _ (by omega) w').mono ?_
  rintro e w' ⟨⟨v, rfl⟩, rfl⟩
  go_wp2_with (fail)
  go_ret
  exact ⟨⟨_, rfl⟩, Hr.out, Hk.out⟩
end Go.Proofs.Ytajdkcpcgfipbaa
