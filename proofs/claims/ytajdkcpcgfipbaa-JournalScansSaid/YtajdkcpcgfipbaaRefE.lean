/- The reference model reads the same records: its reader's Raw, first and Scan. -/
import Derived.Test.YtajdkcpcgfipbaaRefD
import Derived.Test.YtajdkcpcgfipbaaJrnE
import Derived.Test.YtajdkcpcgfipbaaPureF
namespace Go.Proofs.Ytajdkcpcgfipbaa
open Go.RowKit Go.Wm
attribute [local go_sem] min_int max_int

/-- the reference model's length -/
def rrLen (xs : List Int) : Nat × List Int × Int := if (rrU xs).2.2 = 0 then (if (rrU xs).2.1.length < (rrU xs).1 then (0, (rrU xs).2.1, 3) else rrU xs) else (0, (rrU xs).2.1, (rrU xs).2.2)

set_option maxRecDepth 100000 in
set_option maxHeartbeats 1000000 in
theorem RLenR_ok (P : Nat → Prop) (g : Nat) (xs : List Int) (hx : Byt xs) (hl : xs.length < 140737488351232) (w : World) (h : RRdr P w g xs 0) :
    Calls Try.prog 123 #[.pointer (some ⟨g, 0, none⟩)] w fun r w' => r = .returned (.int .i64 (rrLen xs).1) ∧ RRdr P w' g (rrLen xs).2.1 (rrLen xs).2.2 ∧ Kp (fun k => k = g) w w' := by
  have HU := Lib.hid (RUintR_ok P g xs hx hl w h)
  have hlt := rrU_lt xs hx
  have hsl : (rrU xs).2.1.length ≤ xs.length := by
    unfold rrU
    split
    · exact (rU_suffix (k := 0) (acc := 0) (xs := xs) rfl).length_le
    · exact Nat.le_refl _
  obtain ⟨n, rest, e, hq⟩ : ∃ n rest e, rrU xs = (n, rest, e) := ⟨_, _, _, rfl⟩
  rw [hq] at HU hlt hsl
  have Hq := Lib.hid hq
  clear h hx hq
  go_enter Try.func123, Try.ntmps123
  go_wp2_with (fail)
  refine HU.out.mono ?_
  rintro e1 w1 ⟨rfl, hr, hk⟩
  obtain ⟨h1, h2, h3⟩ := hr.cells
  obtain ⟨A, c, h0, _, _⟩ := hr.cell0
  have Hr := Lib.hid hr
  have Hk := Lib.hid hk
  clear hr hk HU
  by_cases he : e = 0
  · subst he
    by_cases hgt : rest.length < n
    · have hd : decide ((rest.length : Int) < (n : Int)) = true := decide_eq_true (by omega)
      have hdn : decide (rest.length < n) = true := decide_eq_true (by omega)
      have H2 := Lib.hid (Hr.out.set_e 3)
      have Hgt := Lib.hid hgt
      clear hgt
      go_wp2
      go_ret
      have e2 : rrLen xs = (0, rest, 3) := by unfold rrLen; rw [Hq.out]; simp [Hgt.out]
      rw [e2]
      exact ⟨rfl, H2.out, Hk.out.set (p := ⟨g, 1, none⟩) (fun _ => rfl) _⟩
    · have hd : decide ((rest.length : Int) < (n : Int)) = false := decide_eq_false (by omega)
      have hdn : decide (rest.length < n) = false := decide_eq_false (by omega)
      have Hgt := Lib.hid hgt
      have hn : n ≤ 140737488351232 := by omega
      clear hgt
      go_wp2
      go_ret
      have e2 : rrLen xs = (n, rest, 0) := by unfold rrLen; rw [Hq.out]; simp [Hgt.out]
      rw [e2]
      exact ⟨rfl, Hr.out, Hk.out⟩
  · have hb : (e == 0) = false := by simpa using he
    have hb2 : (e != 0) = true := by simpa using he
    have He := Lib.hid he
    clear he
    go_wp2
    go_ret
    have e2 : rrLen xs = (0, rest, e) := by unfold rrLen; rw [Hq.out]; simp [He.out]
    rw [e2]
    exact ⟨rfl, Hr.out, Hk.out⟩

set_option maxHeartbeats 400000 in
theorem RLenR_err (P : Nat → Prop) (g : Nat) (xs : List Int) (e : Int) (he : e ≠ 0) (w : World) (h : RRdr P w g xs e) :
    Calls Try.prog 123 #[.pointer (some ⟨g, 0, none⟩)] w fun r w' => r = .returned (.int .i64 0) ∧ w = w' := by
  obtain ⟨h1, h2, h3⟩ := h.cells
  have hb : (e == 0) = false := by simpa using he
  have hb2 : (e != 0) = true := by simpa using he
  have HU := Lib.hid (RUintR_err P g xs e he w h)
  clear h he
  go_enter Try.func123, Try.ntmps123
  go_wp2_with (fail)
  refine HU.out.mono ?_
  rintro e1 w1 ⟨rfl, rfl⟩
  clear HU
  go_wp2
  go_ret
  exact ⟨rfl, rfl⟩

set_option maxHeartbeats 400000 in
theorem RRawR_err (P : Nat → Prop) (g : Nat) (xs : List Int) (e : Int) (he : e ≠ 0) (w : World) (h : RRdr P w g xs e) :
    Calls Try.prog 116 #[.pointer (some ⟨g, 0, none⟩)] w fun r w' => r = .returned (.slice none 0 0) ∧ w = w' := by
  obtain ⟨h1, h2, h3⟩ := h.cells
  have hb2 : (e != 0) = true := by simpa using he
  have HU := Lib.hid (RLenR_err P g xs e he w h)
  clear h he
  go_enter Try.func116, Try.ntmps116
  go_wp2_with (fail)
  refine HU.out.mono ?_
  rintro e1 w1 ⟨rfl, rfl⟩
  clear HU
  go_wp2
  go_ret
  exact ⟨rfl, rfl⟩

theorem rrLen_raw (xs : List Int) : ((rrLen xs).2.2 = 0 → rRaw xs = ((rrLen xs).2.1.take (rrLen xs).1, (rrLen xs).2.1.drop (rrLen xs).1, 0) ∧ (rrLen xs).1 ≤ (rrLen xs).2.1.length) ∧ ((rrLen xs).2.2 ≠ 0 → (rRaw xs).2.2 ≠ 0) := by
  unfold rrLen rrU rRaw
  rcases h : rU 0 0 xs with ⟨n, r, e⟩
  by_cases he : e = 0
  · subst he
    by_cases hl : r.length < n
    · simp [hl]
    · simp [hl]; omega
  · simp [he]
theorem rrLen_le (xs : List Int) : (rrLen xs).2.1.length ≤ xs.length := by
  unfold rrLen rrU
  rcases h : rU 0 0 xs with ⟨n, r, e⟩
  have := (rU_suffix h).length_le
  by_cases he : e = 0
  · subst he
    by_cases hl : r.length < n <;> simp [hl] <;> omega
  · simp [he]
set_option maxRecDepth 100000 in
set_option maxHeartbeats 1000000 in
/-- Raw, where there is no error yet: either an error, and nil; or the bytes, a part of what was read. -/
theorem RRawR_ok (P : Nat → Prop) (g : Nat) (xs : List Int) (hx : Byt xs) (hl : xs.length < 140737488351232) (w : World) (h : RRdr P w g xs 0) :
    Calls Try.prog 116 #[.pointer (some ⟨g, 0, none⟩)] w fun r w' =>
      ((((rRaw xs).2.2 ≠ 0 ∧ ∃ ys e, e ≠ 0 ∧ r = .returned (.slice none 0 0) ∧ RRdr P w' g ys e)) ∨
       ((rRaw xs).2.2 = 0 ∧ RRdr P w' g (rRaw xs).2.1 0 ∧ ∃ A c, r = .returned (.slice A (rRaw xs).1.length c) ∧ Rd .u8 w' A (rRaw xs).1 ∧ (rRaw xs).1.length ≤ c ∧ ((rRaw xs).1 = [] ∨ ∀ a, A = some a → P a.block))) ∧ Kp (fun k => k = g) w w' := by
  have HU := Lib.hid (RLenR_ok P g xs hx hl w h)
  obtain ⟨q1, q2⟩ := rrLen_raw xs
  have hle := rrLen_le xs
  obtain ⟨n, rest, e, hq⟩ : ∃ n rest e, rrLen xs = (n, rest, e) := ⟨_, _, _, rfl⟩
  rw [hq] at HU q1 q2 hle
  clear h hx hq
  go_enter Try.func116, Try.ntmps116
  go_wp2_with (fail)
  refine HU.out.mono ?_
  rintro e1 w1 ⟨rfl, hr, hk⟩
  obtain ⟨h1, h2, h3⟩ := hr.cells
  have Hr := Lib.hid hr
  have Hk := Lib.hid hk
  obtain ⟨A, c, hg, hrd, hc, hd⟩ := hr
  have h0 : w1.cell? ⟨g, 0, none⟩ = some (.slice A rest.length c) := by simp [World.cell?, hg]
  have Hrd := Lib.hid hrd
  have Hnn := Lib.hid (rd_ne hg hrd)
  have Hd := Lib.hid hd
  have Hq2 := Lib.hid q2
  clear hk HU hg hrd hd q2
  by_cases he : e = 0
  · subst he
    obtain ⟨q1, hn⟩ := q1 rfl
    have Hq1 := Lib.hid q1
    clear q1
    have hn63 : n ≤ 140737488351232 := by omega
    have HK := Lib.hid (fun v => Hk.out.set (p := ⟨g, 0, none⟩) (fun _ => rfl) v)
    by_cases hx : rest = []
    · subst hx
      obtain rfl : n = 0 := by simpa using hn
      have e1 : rRaw xs = ([], [], 0) := by rw [Hq1.out]; rfl
      have He1 := Lib.hid e1
      clear e1
      simp only [List.length_nil] at h0
      cases A with
      | none =>
        go_wp2
        go_ret
        rw [He1.out]
        exact ⟨.inr ⟨rfl, Hr.out.set_b rfl (.inl rfl) (by simp) (.inl rfl), _, c, rfl, .inl rfl, by simp, .inl rfl⟩, HK.out _⟩
      | some ad =>
        by_cases hc0 : c = 0
        · subst hc0
          go_wp2
          go_ret
          rw [He1.out]
          exact ⟨.inr ⟨rfl, Hr.out.set_b rfl (.inl rfl) (by simp) (.inl rfl), _, _, rfl, .inl rfl, by simp, .inl rfl⟩, HK.out _⟩
        · go_wp2
          go_ret
          rw [He1.out]
          exact ⟨.inr ⟨rfl, Hr.out.set_b rfl (.inl rfl) (by simp) (.inl rfl), _, c, rfl, .inl rfl, by simp, .inl rfl⟩, HK.out _⟩
    · obtain ⟨b, off, hA, _⟩ := Hrd.out.resolve_left hx
      subst hA
      have Hd2 := Lib.hid (Hd.out.resolve_left hx _ rfl)
      have Hx := Lib.hid hx
      have Hl1 := Lib.hid (show (rest.take n).length = n by rw [List.length_take]; omega)
      have Hl2 := Lib.hid (show (rest.drop n).length = rest.length - n by simp)
      have hbg : b ≠ g := Hnn.out.resolve_left hx _ rfl
      have Hbg := Lib.hid hbg
      clear hx hbg
      by_cases hcn : c = n
      · have hrn : rest.length = n := by omega
        have hdr : rest.drop n = [] := List.drop_of_length_le (by omega)
        have Hdr := Lib.hid hdr
        clear hdr
        go_wp2
        go_ret
        rw [Hq1.out]
        exact ⟨.inr ⟨rfl, Hr.out.set_b (by rw [Hdr.out]; rfl) (by rw [Hdr.out]; exact .inl rfl) (by omega) (by rw [Hdr.out]; exact .inl rfl), some ⟨b, off, none⟩, n, by rw [Hl1.out]; rfl, (Hrd.out.take n).kp ((Kp.refl (fun k => k = g) w1).set (p := ⟨g, 0, none⟩) (fun _ => rfl) _) (fun a ea => by cases ea; exact Hbg.out), by rw [Hl1.out]; omega, .inr (fun a ea => by cases ea; exact Hd2.out)⟩, HK.out _⟩
      · go_wp2
        go_ret
        rw [Hq1.out]
        exact ⟨.inr ⟨rfl, Hr.out.set_b (by rw [Hl2.out]) (Hrd.out.drop n) (by omega) (.inr (fun a ea => by cases ea; exact Hd2.out)), some ⟨b, off, none⟩, c, by rw [Hl1.out]; rfl, (Hrd.out.take n).kp ((Kp.refl (fun k => k = g) w1).set (p := ⟨g, 0, none⟩) (fun _ => rfl) _) (fun a ea => by cases ea; exact Hbg.out), by rw [Hl1.out]; omega, .inr (fun a ea => by cases ea; exact Hd2.out)⟩, HK.out _⟩
  · have hb2 : (e != 0) = true := by simpa using he
    have He := Lib.hid he
    clear he q1
    go_wp2
    go_ret
    exact ⟨.inl ⟨Hq2.out He.out, rest, e, He.out, rfl, Hr.out⟩, Hk.out⟩

/-- the record of number n is at the beginning -/
def hitB (n : Int) (xs : List Int) : Prop := xs.take (frameB n (recordB xs)).length = frameB n (recordB xs)
instance (n : Int) (xs : List Int) : Decidable (hitB n xs) := inferInstanceAs (Decidable (_ = _))
/-- what the reference model's first sees -/
theorem hit_reads (n : Int) (xs : List Int) (h1 : -9223372036854775808 ≤ n) (h2 : n ≤ 9223372036854775807) (hl : xs.length < 9223372036854775808) (h : hitB n xs) :
    (rRaw xs).2.2 = 0 ∧ (rRaw xs).1 = coreB n (recordB xs) ∧ rrU (coreB n (recordB xs)) = (zigN n, rawW (recordB xs), 0) ∧ rRaw (rawW (recordB xs)) = (recordB xs, [], 0) := by
  unfold hitB at h
  have hxl := recordB_len xs
  have hcl := coreB_length n (recordB xs) h1 h2 (by omega)
  have e : xs = rawW (coreB n (recordB xs)) ++ (varN (hashN recLbl (coreB n (recordB xs))) ++ xs.drop (frameB n (recordB xs)).length) := by
    rw [← List.append_assoc]
    show xs = frameB n (recordB xs) ++ _
    conv => lhs; rw [← List.take_append_drop (frameB n (recordB xs)).length xs]
    rw [h]
  have q := rRaw_rawW (coreB n (recordB xs)) (varN (hashN recLbl (coreB n (recordB xs))) ++ xs.drop (frameB n (recordB xs)).length) (by omega)
  rw [← e] at q
  have q3 := rRaw_rawW (recordB xs) [] (by omega)
  rw [List.append_nil] at q3
  refine ⟨by rw [q], by rw [q], ?_, q3⟩
  have q2 : rU 0 0 (coreB n (recordB xs)) = (zigN n, rawW (recordB xs), 0) := rU_varN0 (zigN n) (zigN_lt n h1 h2) _
  unfold rrU
  rw [q2]; rfl
theorem hit_of (n : Int) (xs y : List Int) (h1 : -9223372036854775808 ≤ n) (h2 : n ≤ 9223372036854775807) (hl : y.length < 9223372036854775808) (h : xs.take (frameB n y).length = frameB n y) : hitB n xs ∧ recordB xs = y := by
  have e : xs = frameB n y ++ xs.drop (frameB n y).length := by
    conv => lhs; rw [← List.take_append_drop (frameB n y).length xs]
    rw [h]
  have q := recordB_frame n y (xs.drop (frameB n y).length) h1 h2 hl
  rw [← e] at q
  refine ⟨?_, q⟩
  unfold hitB
  rw [q]; exact h
end Go.Proofs.Ytajdkcpcgfipbaa
