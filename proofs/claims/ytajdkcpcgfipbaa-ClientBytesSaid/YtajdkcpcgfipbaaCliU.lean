/- slices.Equal of bytes; the readers of package wire, whatever their error. -/
import Derived.Test.YtajdkcpcgfipbaaCliT
import Derived.Test.YtajdkcpcgfipbaaWireD
namespace Go.Proofs.Ytajdkcpcgfipbaa
open Go.RowKit Go.Wm

set_option maxRecDepth 100000 in
set_option maxHeartbeats 1000000 in
theorem Equal_any (A A' : Option Addr) (c c' : Nat) (xs ys : List Int) (hl : xs.length ≤ 140737488351232) (w : World) (hr : Rd .u8 w A xs) (hr' : Rd .u8 w A' ys) :
    Calls Try.prog 98 #[.slice A xs.length c, .slice A' ys.length c'] w fun e w' => e = .returned (.bool (decide (xs = ys))) ∧ ∃ n, w' = w.drewN n := by
  by_cases hlen : xs.length = ys.length
  · have hd : ((xs.length : Int) != (ys.length : Int)) = false := by simp [hlen]
    have Hr := Lib.hid hr
    have Hr' := Lib.hid hr'
    have Hlen := Lib.hid hlen
    clear hr hr' hlen
    go_enter Try.func98, Try.ntmps98
    go_wp2
    go_loopw [5, 13] (fun _ i wr => ∃ k : Nat, i = .int .i64 k ∧ k ≤ xs.length ∧ xs.take k = ys.take k ∧ ∃ n, wr = w.drewN n) (fun _ i _ => xs.length - (intOf i).toNat)
    case atStart => exact ⟨0, rfl, Nat.zero_le _, by simp, 0, rfl⟩
    case round =>
      obtain ⟨k, rfl, hk, htk, n, hn⟩ := hrel
      have Hn := Lib.hid hn
      have Htk := Lib.hid htk
      clear htk hn
      by_cases hlt : k < xs.length
      · have hky : k < ys.length := by have := Hlen.out; omega
        rcases Hr.out with h | ⟨b, off, rfl, hb, hc⟩
        · rw [h] at hlt; simp at hlt
        · rcases Hr'.out with h | ⟨b', off', rfl, hb', hc'⟩
          · rw [h] at hky; simp at hky
          · have h1 : wr.cell? ⟨b, off + k, none⟩ = some (.int .u8 (xs[k]?.getD 0)) := by rw [Hn.out]; exact hc k hlt
            have h2 : wr.cell? ⟨b', off' + k, none⟩ = some (.int .u8 (ys[k]?.getD 0)) := by rw [Hn.out]; exact hc' k hky
            clear hc hc'
            obtain ⟨x, hx⟩ : ∃ x, x = xs[k]?.getD 0 := ⟨_, rfl⟩
            obtain ⟨y, hy⟩ : ∃ y, y = ys[k]?.getD 0 := ⟨_, rfl⟩
            rw [← hx] at h1
            rw [← hy] at h2
            have Hx := Lib.hid (show xs.take (k + 1) = xs.take k ++ [x] from by rw [hx, List.take_succ_eq_append_getElem hlt]; simp [hlt])
            have Hy := Lib.hid (show ys.take (k + 1) = ys.take k ++ [y] from by rw [hy, List.take_succ_eq_append_getElem hky]; simp [hky])
            clear hx hy
            by_cases he : x = y
            · subst he
              go_wp2
              go_quiet (fail)
              go_wp2
              go_roundw
              case rel => exact ⟨k + 1, by go_num, by omega, by rw [Hx.out, Hy.out, Htk.out], _, by rw [Hn.out, World.drewN_drewN]⟩
              case measure => simp [intOf]; omega
            · have hd2 : (x != y) = true := by simp [he]
              have E := Lib.hid (show decide (xs = ys) = false from decide_eq_false (fun e => by
                have h3 := Hx.out
                rw [e, Hy.out] at h3
                have h4 := List.append_inj_right' h3 rfl
                simp at h4
                exact he h4.symm))
              clear he
              go_wp2
              go_quiet (fail)
              go_wp2
              go_ret
              exact ⟨by rw [E.out]; rfl, _, by rw [Hn.out, World.drewN_drewN]⟩
      · have E := Lib.hid (show decide (xs = ys) = true from decide_eq_true (by
          have h3 := Htk.out
          have h4 := Hlen.out
          rwa [List.take_of_length_le (by omega), List.take_of_length_le (by omega)] at h3))
        go_wp2
        go_ret
        exact ⟨by rw [E.out]; rfl, _, Hn.out⟩
  · have hd : ((xs.length : Int) != (ys.length : Int)) = true := by simp; omega
    have E := Lib.hid (show decide (xs = ys) = false from decide_eq_false (fun e => hlen (by rw [e])))
    rw [E.out]
    clear hr hr' hlen
    go_enter Try.func98, Try.ntmps98
    go_wp2
    go_ret
    exact ⟨rfl, 0, rfl⟩

/-- the readers, whatever the error -/
def rIntE (s : List Int × Int) : Int × (List Int × Int) := if s.2 = 0 then (unzI (rU 0 0 s.1).1, (rU 0 0 s.1).2) else (unzI 0, s)
def rRawE (s : List Int × Int) : List Int × (List Int × Int) := if s.2 = 0 then ((rRaw s.1).1, (rRaw s.1).2) else ([], s)
def rUE (s : List Int × Int) : Int × (List Int × Int) := if s.2 = 0 then ((rU 0 0 s.1).1, (rU 0 0 s.1).2) else (0, s)
theorem IntR_any (B g : Nat) (s : List Int × Int) (hx : Byt s.1) (hl : s.1.length < 140737488351232) (w : World) (h : Rdr B w g s.1 s.2) :
    Calls Try.prog 97 #[.pointer (some ⟨g, 0, none⟩)] w fun r w' => r = .returned (.int .i64 (rIntE s).1) ∧ Rdr B w' g (rIntE s).2.1 (rIntE s).2.2 ∧ Kp (fun k => k = g) w w' := by
  obtain ⟨xs, e⟩ := s
  by_cases he : e = 0
  · subst he
    exact IntR_ok B g xs hx hl w h
  · refine (IntR_err B g xs e he w h).mono ?_
    rintro r w' ⟨rfl, rfl⟩
    simp only [rIntE, if_neg he]
    exact ⟨by trivial, h, Kp.refl _ _⟩
theorem UintR_any (B g : Nat) (s : List Int × Int) (hx : Byt s.1) (hl : s.1.length < 140737488351232) (w : World) (h : Rdr B w g s.1 s.2) :
    Calls Try.prog 53 #[.pointer (some ⟨g, 0, none⟩)] w fun r w' => r = .returned (.int .u64 (rUE s).1) ∧ Rdr B w' g (rUE s).2.1 (rUE s).2.2 ∧ Kp (fun k => k = g) w w' := by
  obtain ⟨xs, e⟩ := s
  by_cases he : e = 0
  · subst he
    exact UintR_ok B g xs hx hl w h
  · refine (UintR_err B g xs e he w h).mono ?_
    rintro r w' ⟨rfl, rfl⟩
    simp only [rUE, if_neg he]
    exact ⟨by trivial, h, Kp.refl _ _⟩
theorem RawR_any (B g : Nat) (s : List Int × Int) (hx : Byt s.1) (hl : s.1.length < 17592186044416) (w : World) (h : Rdr B w g s.1 s.2) :
    Calls Try.prog 52 #[.pointer (some ⟨g, 0, none⟩)] w fun r w' => (∃ A c, r = .returned (.slice A (rRawE s).1.length c) ∧ ByS w' (.slice A (rRawE s).1.length c) (rRawE s).1) ∧ Rdr w.heap.size w' g (rRawE s).2.1 (rRawE s).2.2 ∧ Kp (fun k => k = g) w w' := by
  obtain ⟨xs, e⟩ := s
  by_cases he : e = 0
  · subst he
    refine (RawR_ok B g xs hx hl w h).mono ?_
    rintro r w' ⟨⟨v, rfl, ho⟩, h2, h3⟩
    obtain ⟨A, c, rfl⟩ := own_slice' ho
    exact ⟨⟨A, c, rfl, _, ho⟩, h2, h3⟩
  · refine (RawR_err B g xs e he w h).mono ?_
    rintro r w' ⟨rfl, rfl⟩
    simp only [rRawE, if_neg he]
    exact ⟨⟨none, 0, rfl, ByS.nil _⟩, h.home, Kp.refl _ _⟩
theorem rIntE_byt {s : List Int × Int} (h : Byt s.1) : Byt (rIntE s).2.1 ∧ (rIntE s).2.1.length ≤ s.1.length := by
  unfold rIntE; split
  · have := rU_suffix (k := 0) (acc := 0) (xs := s.1) rfl
    exact ⟨h.suffix this, this.length_le⟩
  · exact ⟨h, Nat.le_refl _⟩
theorem rRawE_byt {s : List Int × Int} (h : Byt s.1) : Byt (rRawE s).2.1 ∧ (rRawE s).2.1.length ≤ s.1.length ∧ Byt (rRawE s).1 ∧ (rRawE s).1.length ≤ s.1.length := by
  unfold rRawE; split
  · have := rRaw_suffix s.1
    exact ⟨h.suffix this, this.length_le, rRaw_byt h, rRaw_len _⟩
  · exact ⟨h, Nat.le_refl _, Byt.nil, by simp⟩
theorem rUE_byt {s : List Int × Int} (h : Byt s.1) : (rUE s).2.1.length ≤ s.1.length ∧ 0 ≤ (rUE s).1 ∧ (rUE s).1 < 18446744073709551616 := by
  unfold rUE; split
  · have := rU_suffix (k := 0) (acc := 0) (xs := s.1) rfl
    have := rU_lt h (k := 0) (acc := 0) (by omega) (by simp)
    refine ⟨‹_ <:+ _›.length_le, by simp, by simp only; omega⟩
  · exact ⟨Nat.le_refl _, by simp, by simp⟩
end Go.Proofs.Ytajdkcpcgfipbaa
