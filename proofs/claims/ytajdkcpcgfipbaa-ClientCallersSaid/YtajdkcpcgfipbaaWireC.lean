/- The reader of package wire. -/
import Derived.Test.YtajdkcpcgfipbaaWireB
import Derived.Test.YtajdkcpcgfipbaaPureB
namespace Go.Proofs.Ytajdkcpcgfipbaa
open Go.RowKit Go.Wm

/-- THE READER AT BLOCK g: the bytes xs are left, e is its error; the bytes lie below block B. -/
def Rdr (B : Nat) (w : World) (g : Nat) (xs : List Int) (e : Int) : Prop :=
  ∃ A c, w.heap[g]? = some (.cells #[.slice A xs.length c, .int .i64 e] 145 (0, 0)) ∧ Rd .u8 w A xs ∧ xs.length ≤ c ∧ (xs = [] ∨ ∀ a, A = some a → a.block < B)
theorem Rdr.make {w : World} {g : Nat} {A : Option Addr} {c : Nat} {xs : List Int} {e : Int} (hg : w.heap[g]? = some (.cells #[.slice A xs.length c, .int .i64 e] 145 (0, 0))) (hr : Rd .u8 w A xs) (hc : xs.length ≤ c) : Rdr w.heap.size w g xs e := by
  refine ⟨A, c, hg, hr, hc, ?_⟩
  rcases hr with h | ⟨b, off, rfl, hb, _⟩
  · exact .inl h
  · exact .inr (fun a ea => by cases ea; exact hb)
theorem Rdr.home {B : Nat} {w : World} {g : Nat} {xs : List Int} {e : Int} (h : Rdr B w g xs e) : Rdr w.heap.size w g xs e := by
  obtain ⟨A, c, hg, hr, hc, _⟩ := h
  refine ⟨A, c, hg, hr, hc, ?_⟩
  rcases hr with h | ⟨b, off, rfl, hb, _⟩
  · exact .inl h
  · exact .inr (fun a ea => by cases ea; exact hb)
theorem Rdr.lift {B B' : Nat} {w : World} {g : Nat} {xs : List Int} {e : Int} (h : Rdr B w g xs e) (hB : B ≤ B') : Rdr B' w g xs e := by
  obtain ⟨A, c, hg, hr, hc, hd⟩ := h
  exact ⟨A, c, hg, hr, hc, hd.imp id (fun q a ea => Nat.lt_of_lt_of_le (q a ea) hB)⟩
theorem Rdr.lt {B : Nat} {w : World} {g : Nat} {xs : List Int} {e : Int} (h : Rdr B w g xs e) : g < w.heap.size := by
  obtain ⟨A, c, hg, _⟩ := h
  exact (Array.getElem?_eq_some_iff.1 hg).1
theorem Rdr.below {B : Nat} {w w' : World} {g : Nat} {xs : List Int} {e : Int} (h : Rdr B w g xs e) (hB : Below w.heap.size w w') : Rdr B w' g xs e := by
  obtain ⟨A, c, hg, hr, hc, hd⟩ := h
  exact ⟨A, c, (hB.block g (Array.getElem?_eq_some_iff.1 hg).1).trans hg, hr.below hB (Nat.le_refl _), hc, hd⟩
theorem Rdr.kp {S : Nat → Prop} {B : Nat} {w w' : World} {g : Nat} {xs : List Int} {e : Int} (h : Rdr B w g xs e) (k : Kp S w w') (hg : ¬ S g) (hS : ∀ b, b < B → ¬ S b) : Rdr B w' g xs e := by
  obtain ⟨A, c, hb, hr, hc, hd⟩ := h
  refine ⟨A, c, (k.block g (Array.getElem?_eq_some_iff.1 hb).1 hg).trans hb, ?_, hc, hd⟩
  rcases hd with hd | hd
  · exact .inl hd
  · exact hr.kp k (fun a ea => hS _ (hd a ea))
theorem own_ne_blk {w : World} {base e size n g T : Nat} {v : Value} {xs : List Value} {cs : Array Value} {f : Nat × Nat} (h : w.ownsRow base e size v n xs) (hg : w.heap[g]? = some (.cells cs T f)) (hne : e ≠ T) : ∀ b, v.ownBlock = some b → b ≠ g := by
  intro b hb
  rcases h.2 with ⟨rfl, _⟩ | ⟨g', cap, cur, rfl, _, hgb, _⟩
  · simp [Value.ownBlock] at hb
  · obtain rfl : g' = b := by simpa [Value.ownBlock] using hb
    rintro rfl
    rw [hgb] at hg
    cases hg
    exact hne rfl
/-- the bytes do not lie in the reader's own block -/
theorem rd_ne {w : World} {g T l c : Nat} {e : Int} {xs : List Int} {A A' : Option Addr} (hg : w.heap[g]? = some (.cells #[.slice A' l c, .int .i64 e] T (0, 0))) (hr : Rd .u8 w A xs) :
    xs = [] ∨ ∀ a, A = some a → a.block ≠ g := by
  rcases hr with h | ⟨b, off, rfl, hb, hc⟩
  · exact .inl h
  · cases xs with
    | nil => exact .inl rfl
    | cons x xs =>
      refine .inr fun a ea => ?_
      cases ea
      rintro rfl
      have := hc 0 (by simp)
      simp only [World.cell?, hg, Nat.add_zero, Option.isSome_none] at this
      match off with
      | 0 => simp at this
      | 1 => simp at this
      | k + 2 => simp at this
theorem Rdr.set_e {B : Nat} {w : World} {g : Nat} {xs : List Int} {e : Int} (h : Rdr B w g xs e) (e' : Int) : Rdr B (w.setCell ⟨g, 1, none⟩ (.int .i64 e')) g xs e' := by
  obtain ⟨A, c, hg, hr, hc, hd⟩ := h
  refine ⟨A, c, ?_, ?_, hc, hd⟩
  · simp only [World.setCell, Array.getElem?_modify, hg]; rfl
  · rcases rd_ne hg hr with h | h
    · exact .inl h
    · exact hr.kp ((Kp.refl (fun k => k = g) w).set (p := ⟨g, 1, none⟩) (fun _ => rfl) _) h
theorem Rdr.cells {B : Nat} {w : World} {g : Nat} {xs : List Int} {e : Int} (h : Rdr B w g xs e) : w.cell? ⟨g, 1, none⟩ = some (.int .i64 e) ∧ w.frozen? ⟨g, 1, none⟩ = false ∧ w.frozen? ⟨g, 0, none⟩ = false := by
  obtain ⟨A, c, hg, hr, hc, hd⟩ := h
  simp [World.cell?, World.frozen?, hg]
theorem Rdr.cell0 {B : Nat} {w : World} {g : Nat} {xs : List Int} {e : Int} (h : Rdr B w g xs e) : ∃ A c, w.cell? ⟨g, 0, none⟩ = some (.slice A xs.length c) ∧ Rd .u8 w A xs ∧ xs.length ≤ c := by
  obtain ⟨A, c, hg, hr, hc, hd⟩ := h
  exact ⟨A, c, by simp [World.cell?, hg], hr, hc⟩

theorem Rdr.set_b {B : Nat} {w : World} {g : Nat} {xs ys : List Int} {e : Int} (h : Rdr B w g xs e) {A : Option Addr} {l c : Nat} (hl : l = ys.length) (hr : Rd .u8 w A ys) (hc : l ≤ c) (hd : ys = [] ∨ ∀ a, A = some a → a.block < B) : Rdr B (w.setCell ⟨g, 0, none⟩ (.slice A l c)) g ys e := by
  subst hl
  obtain ⟨A0, c0, hg, hr0, hc0, _⟩ := h
  refine ⟨A, c, ?_, ?_, hc, hd⟩
  · simp only [World.setCell, Array.getElem?_modify, hg]; rfl
  · rcases rd_ne hg hr with h | h
    · exact .inl h
    · exact hr.kp ((Kp.refl (fun k => k = g) w).set (p := ⟨g, 0, none⟩) (fun _ => rfl) _) h
set_option maxHeartbeats 400000 in
/-- fail: an error is recorded where there is none. -/
theorem fail_ok (B g : Nat) (xs : List Int) (x : Int) (w : World) (h : Rdr B w g xs 0) :
    Calls Try.prog 92 #[.pointer (some ⟨g, 0, none⟩), .int .i64 x] w fun r w' => r = .returned (.tuple #[]) ∧ Rdr B w' g xs x ∧ Kp (fun k => k = g) w w' := by
  obtain ⟨h1, h2, h3⟩ := h.cells
  have H := Lib.hid h
  clear h
  go_enter Try.func92, Try.ntmps92
  go_wp2
  go_end0
  exact ⟨rfl, H.out.set_e _, (Kp.refl (fun k => k = g) w).set (p := ⟨g, 1, none⟩) (fun _ => rfl) _⟩
set_option maxHeartbeats 400000 in
theorem fail_err (B g : Nat) (xs : List Int) (e x : Int) (he : e ≠ 0) (w : World) (h : Rdr B w g xs e) :
    Calls Try.prog 92 #[.pointer (some ⟨g, 0, none⟩), .int .i64 x] w fun r w' => r = .returned (.tuple #[]) ∧ w = w' := by
  obtain ⟨h1, h2, h3⟩ := h.cells
  have hb : (e == 0) = false := by simpa using he
  go_enter Try.func92, Try.ntmps92
  go_wp2
  go_end0
  exact ⟨rfl, rfl⟩

set_option maxRecDepth 100000 in
set_option maxHeartbeats 400000 in
/-- next at no byte: ErrMore. -/
theorem next_nil (B g : Nat) (w : World) (h : Rdr B w g [] 0) :
    Calls Try.prog 91 #[.pointer (some ⟨g, 0, none⟩)] w fun r w' => r = .returned (.int .u8 0) ∧ Rdr B w' g [] 3 ∧ Kp (fun k => k = g) w w' := by
  obtain ⟨A, c, h0, hr, hc⟩ := h.cell0
  have H := Lib.hid h
  clear hr h
  go_enter Try.func91, Try.ntmps91
  go_wp2_with (fail)
  refine (fail_ok B g [] 3 w H.out).mono ?_
  rintro r w1 ⟨rfl, h', hk⟩
  obtain ⟨h1, h2, h3⟩ := h'.cells
  have H' := Lib.hid h'
  clear h'
  go_wp2
  go_ret
  exact ⟨rfl, H'.out, hk⟩

set_option maxRecDepth 100000 in
set_option maxHeartbeats 1000000 in
theorem next_cons (B g : Nat) (x : Int) (xs : List Int) (w : World) (hl : xs.length < 140737488351232) (h : Rdr B w g (x :: xs) 0) :
    Calls Try.prog 91 #[.pointer (some ⟨g, 0, none⟩)] w fun r w' => r = .returned (.int .u8 x) ∧ Rdr B w' g xs 0 ∧ Kp (fun k => k = g) w w' := by
  have H := Lib.hid h
  obtain ⟨A, c, hg, hr, hc, hd⟩ := h
  have hg0 : w.cell? ⟨g, 0, none⟩ = some (.slice A (x :: xs).length c) := by simp [World.cell?, hg]
  have hg1 : w.cell? ⟨g, 1, none⟩ = some (.int .i64 0) := by simp [World.cell?, hg]
  have hf0 : w.frozen? ⟨g, 0, none⟩ = false := by simp [World.frozen?, hg]
  have Hr := Lib.hid hr
  rcases hr with hr | ⟨b, off, rfl, hb, hcell⟩
  · cases hr
  · have hx : w.cell? ⟨b, off, none⟩ = some (.int .u8 x) := by simpa using hcell 0 (by simp)
    have hlen : ((xs.length : Int) + 1 == 0) = false := by simp; omega
    simp only [List.length_cons] at hc hg0
    have Hd := Lib.hid (hd.resolve_left (by simp) _ rfl)
    clear hd
    clear hcell hg
    by_cases hc1 : c = 1
    · obtain rfl : xs = [] := List.eq_nil_of_length_eq_zero (by omega)
      subst hc1
      go_enter Try.func91, Try.ntmps91
      go_wp2
      go_ret
      exact ⟨rfl, H.out.set_b (by simp) (.inl rfl) (by omega) (.inl rfl), (Kp.refl (fun k => k = g) w).set (p := ⟨g, 0, none⟩) (fun _ => rfl) _⟩
    · go_enter Try.func91, Try.ntmps91
      go_wp2
      go_ret
      exact ⟨rfl, H.out.set_b (by omega) Hr.out.tail (by omega) (.inr (fun a ea => by cases ea; exact Hd.out)), (Kp.refl (fun k => k = g) w).set (p := ⟨g, 0, none⟩) (fun _ => rfl) _⟩

theorem UintR_err (B g : Nat) (xs : List Int) (e : Int) (he : e ≠ 0) (w : World) (h : Rdr B w g xs e) :
    Calls Try.prog 53 #[.pointer (some ⟨g, 0, none⟩)] w fun r w' => r = .returned (.int .u64 0) ∧ w = w' := by
  obtain ⟨h1, h2, h3⟩ := h.cells
  have hb : (e == 0) = false := by simpa using he
  clear h
  go_enter Try.func53, Try.ntmps53
  go_wp2
  go_loop [4] (fun i => i = .int .i64 0) (fun _ => 0)
  case atStart => rfl
  case round =>
    subst hrel
    go_wp2
    go_ret
    exact ⟨rfl, rfl⟩

/-- where the loop of Uint stands -/
def UR (B : Nat) (xs : List Int) (w : World) (g : Nat) (n i : Value) (wr : World) : Prop :=
  ((∃ (k acc : Nat) (rest : List Int), i = .int .i64 k ∧ n = .int .u64 acc ∧ k ≤ 9 ∧ acc < 128 ^ k ∧ k + rest.length = xs.length ∧ Byt rest ∧ rU 0 0 xs = rU k acc rest ∧ Rdr B wr g rest 0) ∨
  (∃ (k : Nat) (rest : List Int) (e : Int), i = .int .i64 k ∧ e ≠ 0 ∧ k ≤ xs.length + 1 ∧ rU 0 0 xs = (0, rest, e) ∧ Rdr B wr g rest e)) ∧ Kp (fun k => k = g) w wr

set_option maxRecDepth 100000 in
set_option maxHeartbeats 2000000 in
theorem UintR_ok (B g : Nat) (xs : List Int) (hx : Byt xs) (hl : xs.length < 140737488351232) (w : World) (h : Rdr B w g xs 0) :
    Calls Try.prog 53 #[.pointer (some ⟨g, 0, none⟩)] w fun r w' => r = .returned (.int .u64 (rU 0 0 xs).1) ∧ Rdr B w' g (rU 0 0 xs).2.1 (rU 0 0 xs).2.2 ∧ Kp (fun k => k = g) w w' := by
  have H := Lib.hid h
  clear h
  go_enter Try.func53, Try.ntmps53
  go_wp2
  go_loopw [3, 4] (fun n i wr => UR B xs w g n i wr) (fun _ i _ => xs.length + 2 - (intOf i).toNat)
  case atStart => exact ⟨.inl ⟨0, 0, xs, rfl, rfl, by omega, by simp, by simp, hx, rfl, H.out⟩, Kp.refl _ _⟩
  case round =>
    obtain ⟨⟨k, acc, rest, rfl, rfl, hk9, hacc, hkl, hbt, hrU, hR⟩ | ⟨k, rest, e, rfl, he, hkl, hrU, hR⟩, hk⟩ := hrel
    · obtain ⟨h1, h2, h3⟩ := hR.cells
      have HR := Lib.hid hR
      have Hk := Lib.hid hk
      have HU := Lib.hid hrU
      clear hR hk hrU
      cases rest with
      | nil =>
        go_wp2_with (fail)
        refine (next_nil B g _ HR.out).mono ?_
        rintro r w1 ⟨rfl, h', hk1⟩
        obtain ⟨h1', h2', h3'⟩ := h'.cells
        have H' := Lib.hid h'
        have Hk1 := Lib.hid hk1
        clear h' hk1 h1 h2 h3
        by_cases hk0 : 0 < k
        · have hd : decide ((0 : Int) < (k : Int)) = true := by simp; omega
          by_cases hk9' : ((k : Int) == 9) = true
          all_goals
            go_wp2_with (go_at_call 92; refine (fail_err B g [] 3 2 (by omega) _ H'.out).mono ?_; rintro r w2 ⟨rfl, rfl⟩)
            go_roundw
            case rel => exact ⟨.inr ⟨k + 1, [], 3, by go_num, by omega, by omega, by rw [HU.out]; rfl, H'.out⟩, Hk.out.trans Hk1.out (fun _ _ e => e)⟩
            case measure => simp [intOf]; omega
        · obtain rfl : k = 0 := by omega
          go_wp2
          go_roundw
          case rel => exact ⟨.inr ⟨1, [], 3, rfl, by omega, by omega, by rw [HU.out]; rfl, H'.out⟩, Hk.out.trans Hk1.out (fun _ _ e => e)⟩
          case measure => simp [intOf]
      | cons x r =>
        have hxb := hbt x List.mem_cons_self
        obtain ⟨y, rfl⟩ := Int.eq_ofNat_of_zero_le hxb.1
        go_wp2_with (fail)
        refine (next_cons B g (y : Int) r _ (by simp only [List.length_cons] at hkl; omega) HR.out).mono ?_
        rintro r' w1 ⟨rfl, h', hk1⟩
        obtain ⟨h1', h2', h3'⟩ := h'.cells
        have H' := Lib.hid h'
        have Hk1 := Lib.hid hk1
        clear h' hk1 h1 h2 h3
        have hkl' : k + r.length + 1 = xs.length := by simp only [List.length_cons] at hkl; omega
        have hbt' : Byt r := fun y hy => hbt y (List.mem_cons_of_mem _ hy)
        have hand := andNot128 (y : Int) hxb.1 hxb.2
        clear hkl hbt
        by_cases hbad : (k = 9 ∧ 1 < (y : Int)) ∨ (0 < k ∧ (y : Int) = 0)
        · have HE := Lib.hid (show rU k acc ((y : Int) :: r) = (0, r, 2) from by rw [rU, if_pos hbad])
          by_cases hA : k = 9 ∧ 1 < (y : Int)
          · obtain ⟨hA1, hA2⟩ := hA
            have hb1 : ((k : Int) == 9) = true := by simp; omega
            have hb2 : decide (1 < (y : Int)) = true := by simpa using hA2
            clear hbad hA1
            go_wp2_with (go_at_call 92; refine (fail_ok B g r 2 _ H'.out).mono ?_; rintro r' w2 ⟨rfl, h2, hk2⟩; obtain ⟨h21, h22, h23⟩ := h2.cells; have H2 := Lib.hid h2; have Hk2 := Lib.hid hk2; clear h2 hk2 h1' h2' h3')
            all_goals
              go_roundw
              case rel => exact ⟨.inr ⟨k + 1, r, 2, by go_num, by omega, by omega, by rw [HU.out, HE.out], H2.out⟩, (Hk.out.trans Hk1.out (fun _ _ e => e)).trans Hk2.out (fun _ _ e => e)⟩
              case measure => simp [intOf]; omega
          · have hB : 0 < k ∧ (y : Int) = 0 := hbad.resolve_left hA
            obtain ⟨hB1, hB2⟩ := hB
            obtain rfl : y = 0 := by omega
            have hb1 : decide ((0 : Int) < (k : Int)) = true := by simp; omega
            clear hbad hA
            by_cases hk9' : ((k : Int) == 9) = true
            all_goals
              go_wp2_with (go_at_call 92; refine (fail_ok B g r 2 _ H'.out).mono ?_; rintro r' w2 ⟨rfl, h2, hk2⟩; obtain ⟨h21, h22, h23⟩ := h2.cells; have H2 := Lib.hid h2; have Hk2 := Lib.hid hk2; clear h2 hk2 h1' h2' h3')
              go_roundw
              case rel => exact ⟨.inr ⟨k + 1, r, 2, by go_num, by omega, by omega, by rw [HU.out, HE.out], H2.out⟩, (Hk.out.trans Hk1.out (fun _ _ e => e)).trans Hk2.out (fun _ _ e => e)⟩
              case measure => simp [intOf]; omega
        · obtain ⟨acc', hacc'⟩ : ∃ a : Nat, a = acc + (y % 128) * 128 ^ k := ⟨_, rfl⟩
          have hs := uint_step' acc y k hk9 hacc (by omega)
          rw [← hacc'] at hs
          have hlt' := uint_acc acc (y % 128) k hacc (by omega)
          rw [← hacc'] at hlt'
          have HA := Lib.hid hacc'
          have HL := Lib.hid hlt'
          rw [Int.toNat_natCast] at hand
          have hg : ((k : Int) == 9) = true ∧ decide (1 < (y : Int)) = false ∧ decide ((0 : Int) < (k : Int)) = true ∧ (((y : Int) == 0) = false ∧ (y == 0) = false ∧ 0 < y) ∨ ((k : Int) == 9) = false ∧ decide ((0 : Int) < (k : Int)) = true ∧ (((y : Int) == 0) = false ∧ (y == 0) = false ∧ 0 < y) ∨ ((k : Int) == 9) = false ∧ decide ((0 : Int) < (k : Int)) = false ∧ decide (0 < k) = false := by
            simp; omega
          have Hbad := Lib.hid hbad
          clear hbad hacc' hlt'
          by_cases hlt : (y : Int) < 128
          · have HE := Lib.hid (show rU k acc ((y : Int) :: r) = (acc', r, 0) from by rw [rU, if_neg Hbad.out, if_pos hlt, HA.out, Int.toNat_natCast, show y % 128 = y from by omega])
            have hltb : decide ((y : Int) < 128) = true := by simpa using hlt
            rcases hg with ⟨g1, g2, g3, g4, g5, g6⟩ | ⟨g1, g3, g4, g5, g6⟩ | ⟨g1, g3, g4⟩
            all_goals go_wp2
            all_goals
              go_ret
              exact ⟨by rw [HU.out, HE.out]; rfl, by rw [HU.out, HE.out]; exact H'.out, Hk.out.trans Hk1.out (fun _ _ e => e)⟩
          · have HE := Lib.hid (show rU k acc ((y : Int) :: r) = rU (k + 1) acc' r from by rw [rU, if_neg Hbad.out, if_neg hlt, HA.out, Int.toNat_natCast])
            have hk8 : k + 1 ≤ 9 := by have := Hbad.out; omega
            have hltb : decide ((y : Int) < 128) = false := by simpa using hlt
            rcases hg with ⟨g1, g2, g3, g4, g5, g6⟩ | ⟨g1, g3, g4, g5, g6⟩ | ⟨g1, g3, g4⟩
            all_goals go_wp2
            all_goals
              go_roundw
              case rel => exact ⟨.inl ⟨k + 1, acc', r, by go_num, rfl, hk8, HL.out, by omega, hbt', by rw [HU.out, HE.out], H'.out⟩, Hk.out.trans Hk1.out (fun _ _ e => e)⟩
              case measure => simp [intOf]; omega
    · obtain ⟨h1, h2, h3⟩ := hR.cells
      have hb : (e == 0) = false := by simpa using he
      have HR := Lib.hid hR
      have Hk := Lib.hid hk
      have HU := Lib.hid hrU
      clear hR hk hrU
      go_wp2
      go_ret
      exact ⟨by rw [HU.out]; rfl, by rw [HU.out]; exact HR.out, Hk.out⟩
end Go.Proofs.Ytajdkcpcgfipbaa
