/- The reader of package wire: Int, Raw, End, Read. -/
import Derived.Test.YtajdkcpcgfipbaaWireC
namespace Go.Proofs.Ytajdkcpcgfipbaa
open Go.RowKit Go.Wm

set_option maxHeartbeats 400000 in
theorem unzigzag_any (z : Int) (w : World) :
    Calls Try.prog 119 #[.int .u64 z] w fun e w' => e = .returned (.int .i64 (unzI z)) ∧ w = w' := by
  go_enter Try.func119, Try.ntmps119
  go_wp2
  go_ret
  exact ⟨rfl, rfl⟩

set_option maxHeartbeats 400000 in
theorem IntR_ok (B g : Nat) (xs : List Int) (hx : Byt xs) (hl : xs.length < 140737488351232) (w : World) (h : Rdr B w g xs 0) :
    Calls Try.prog 97 #[.pointer (some ⟨g, 0, none⟩)] w fun r w' => r = .returned (.int .i64 (unzI (rU 0 0 xs).1)) ∧ Rdr B w' g (rU 0 0 xs).2.1 (rU 0 0 xs).2.2 ∧ Kp (fun k => k = g) w w' := by
  have H := Lib.hid h
  clear h
  go_enter Try.func97, Try.ntmps97
  go_wp2_with (fail)
  refine (UintR_ok B g xs hx hl w H.out).mono ?_
  rintro e w' ⟨rfl, h', hk⟩
  have H' := Lib.hid h'
  clear h'
  go_wp2_with (fail)
  refine (unzigzag_any _ w').mono ?_
  rintro e w2 ⟨rfl, rfl⟩
  go_wp2
  go_ret
  exact ⟨rfl, H'.out, hk⟩
set_option maxHeartbeats 400000 in
theorem IntR_err (B g : Nat) (xs : List Int) (e : Int) (he : e ≠ 0) (w : World) (h : Rdr B w g xs e) :
    Calls Try.prog 97 #[.pointer (some ⟨g, 0, none⟩)] w fun r w' => r = .returned (.int .i64 (unzI 0)) ∧ w = w' := by
  have H := Lib.hid h
  clear h
  go_enter Try.func97, Try.ntmps97
  go_wp2_with (fail)
  refine (UintR_err B g xs e he w H.out).mono ?_
  rintro r w' ⟨rfl, rfl⟩
  go_wp2_with (fail)
  refine (unzigzag_any _ _).mono ?_
  rintro r w2 ⟨rfl, rfl⟩
  go_wp2
  go_ret
  exact ⟨rfl, rfl⟩

set_option maxHeartbeats 400000 in
theorem EndR_any (B g : Nat) (xs : List Int) (e : Int) (hl : xs.length < 140737488351232) (w : World) (h : Rdr B w g xs e) :
    Calls Try.prog 54 #[.pointer (some ⟨g, 0, none⟩)] w fun r w' => r = .returned (.int .i64 (if e = 0 ∧ 0 < xs.length then 2 else e)) ∧ w = w' := by
  obtain ⟨h1, h2, h3⟩ := h.cells
  obtain ⟨A, c, h0, hr, hc⟩ := h.cell0
  clear h hr
  by_cases he : e = 0
  · subst he
    by_cases hx : 0 < xs.length
    · have E := Lib.hid (show (if (0 : Int) = 0 ∧ 0 < xs.length then (2 : Int) else 0) = 2 from by simp [hx])
      rw [E.out]
      go_enter Try.func54, Try.ntmps54
      go_wp2
      go_ret
      exact ⟨rfl, rfl⟩
    · have E := Lib.hid (show (if (0 : Int) = 0 ∧ 0 < xs.length then (2 : Int) else 0) = 0 from by simp [hx])
      rw [E.out]
      have hz : xs.length = 0 := by omega
      rw [hz] at h0
      clear hx hz
      go_enter Try.func54, Try.ntmps54
      go_wp2
      go_ret
      exact ⟨rfl, rfl⟩
  · have E := Lib.hid (show (if e = 0 ∧ 0 < xs.length then (2 : Int) else e) = e from by simp [he])
    rw [E.out]
    have hb : (e == 0) = false := by simpa using he
    go_enter Try.func54, Try.ntmps54
    go_wp2
    go_ret
    exact ⟨rfl, rfl⟩

set_option maxHeartbeats 400000 in
/-- wire.Read: a reader of a copy of the bytes -/
theorem Read_any (A : Option Addr) (c : Nat) (xs : List Int) (hl : xs.length ≤ 140737488351232) (w : World) (hr : Rd .u8 w A xs) :
    Calls Try.prog 51 #[.slice A xs.length c] w fun e w' => (∃ g, e = .returned (.pointer (some ⟨g, 0, none⟩)) ∧ w.heap.size ≤ g ∧ Rdr w'.heap.size w' g xs 0) ∧ Below w.heap.size w w' := by
  have Hr := Lib.hid hr
  clear hr
  go_enter Try.func51, Try.ntmps51
  go_wp2_with (fail)
  refine (Clone_any A c xs hl w Hr.out).mono ?_
  rintro e w1 ⟨⟨v, rfl, ho⟩, hb⟩
  obtain ⟨A', c', rfl⟩ := own_slice' ho
  have Ho := Lib.hid ho
  clear ho
  go_wp2
  go_ret
  exact ⟨⟨_, rfl, hb.size, Rdr.make (heap_alloc_new w1 _) ((Rd.of_own Ho.out).alloc _) (own_cap Ho.out)⟩, hb.alloc hb.size _⟩

/-- 'r.next' as a function value -/
abbrev nextV (g : Nat) : Value := .func (.func 91) #[.pointer (some ⟨g, 0, none⟩)] #[]

set_option maxRecDepth 100000 in
set_option maxHeartbeats 400000 in
theorem list_err (B g : Nat) (xs : List Int) (e : Int) (he : e ≠ 0) (w : World) (h : Rdr B w g xs e) :
    Calls Try.prog 90 #[.pointer (some ⟨g, 0, none⟩), nextV g] w fun r w' => r = .returned (.slice none 0 0) ∧ w = w' := by
  obtain ⟨h1, h2, h3⟩ := h.cells
  obtain ⟨A, c, h0, hr, hc⟩ := h.cell0
  have hb : (e == 0) = false := by simpa using he
  have hb2 : (e != 0) = true := by simpa using he
  have H := Lib.hid h
  clear h hr
  go_enter Try.func90, Try.ntmps90
  go_wp2_with (fail)
  refine (UintR_err B g xs e he w H.out).mono ?_
  rintro r w' ⟨rfl, rfl⟩
  go_wp2
  go_loop [7] (fun i => i = .int .u64 0) (fun _ => 0)
  case atStart => rfl
  case round =>
    subst hrel
    go_wp2
    go_ret
    exact ⟨rfl, rfl⟩

set_option maxRecDepth 100000 in
set_option maxHeartbeats 2000000 in
theorem list_ok (B g : Nat) (xs : List Int) (hx : Byt xs) (hl : xs.length < 17592186044416) (w : World) (h0 : Rdr B w g xs 0) :
    Calls Try.prog 90 #[.pointer (some ⟨g, 0, none⟩), nextV g] w fun r w' => (∃ v, r = .returned v ∧ w'.ownsRow w.heap.size 5 1 v (rRaw xs).1.length ((rRaw xs).1.map (.int .u8))) ∧ Rdr w.heap.size w' g (rRaw xs).2.1 (rRaw xs).2.2 ∧ Kp (fun k => k = g) w w' := by
  obtain ⟨i0, hi, hz0, hz1, hz2⟩ := info_parts info_u8
  have h := h0.home
  clear h0
  have hgl := h.lt
  have H := Lib.hid h
  clear h
  go_enter Try.func90, Try.ntmps90
  go_wp2_with (fail)
  refine (UintR_ok w.heap.size g xs hx (by omega) w H.out).mono ?_
  rintro r' w1 ⟨rfl, h', hk⟩
  have hlt := rU_lt hx (k := 0) (acc := 0) (by omega) (by simp)
  rcases hU : rU 0 0 xs with ⟨n, r, e⟩
  rw [hU] at h' hlt
  dsimp only at h' hlt
  have HU := Lib.hid hU
  clear hU
  have hrl := (rU_suffix HU.out).length_le
  obtain ⟨h1, h2, h3⟩ := h'.cells
  obtain ⟨A, c, h0, hr, hc⟩ := h'.cell0
  clear hr
  have H' := Lib.hid h'
  clear h'
  by_cases he : e = 0
  · subst he
    by_cases hn : r.length < n
    · have E := Lib.hid (show rRaw xs = ([], r, 3) from by unfold rRaw; rw [HU.out]; simp [hn])
      have hn' : decide ((r.length : Int) < (n : Int)) = true := by simp; omega
      go_wp2_with (fail)
      refine (fail_ok w.heap.size g r 3 _ H'.out).mono ?_
      rintro r2 w2 ⟨rfl, h2', hk2⟩
      obtain ⟨h21, h22, h23⟩ := h2'.cells
      have H2 := Lib.hid h2'
      clear h2' h1 h2 h3
      go_wp2
      go_loop [7] (fun i => i = .int .u64 0) (fun _ => 0)
      case atStart => rfl
      case round =>
        subst hrel
        go_wp2
        go_ret
        rw [E.out]
        exact ⟨⟨_, rfl, World.ownsRow_nil _ _ _ _⟩, H2.out, hk.trans hk2 (fun _ _ e => e)⟩
    · have E := Lib.hid (show rRaw xs = (r.take n, r.drop n, 0) from by unfold rRaw; rw [HU.out]; simp [hn])
      have hn' : decide ((r.length : Int) < (n : Int)) = false := by simp; omega
      go_wp2
      go_loopw [6, 7] (fun v i wr => ∃ (k : Nat) (vv : Value), vv = v ∧ i = .int .u64 k ∧ k ≤ n ∧ Rdr w.heap.size wr g (r.drop k) 0 ∧ wr.ownsRow w.heap.size 5 1 v k ((r.take k).map (.int .u8)) ∧ Kp (fun k => k = g) w wr)
        (fun _ i _ => n - (intOf i).toNat)
      case atStart => exact ⟨0, _, rfl, rfl, by omega, H'.out, by simpa using World.ownsRow_nil _ _ _ _, hk⟩
      case round =>
        obtain ⟨k, v, rfl, rfl, hkn, hR, hrow, hkp⟩ := hrel
        obtain ⟨h41, h42, h43⟩ := hR.cells
        obtain ⟨bb, hgb⟩ : ∃ bb : Array Value, wr.heap[g]? = some (.cells bb 145 (0, 0)) := by obtain ⟨_, _, hg, _⟩ := hR; exact ⟨_, hg⟩
        have hne := own_ne_blk hrow hgb (by decide)
        have HR := Lib.hid hR
        have Hne := Lib.hid hne
        have Hrow := Lib.hid hrow
        have Hkp := Lib.hid hkp
        clear hR hne hrow hkp hgb h1 h2 h3
        by_cases hlt2 : k < n
        · have hd : decide ((k : Int) < (n : Int)) = true := by simp; omega
          obtain ⟨x, hxk, htk⟩ : ∃ x, r.drop k = x :: r.drop (k + 1) ∧ r.take (k + 1) = r.take k ++ [x] := ⟨r[k]'(by omega), List.drop_eq_getElem_cons (by omega), List.take_succ_eq_append_getElem (by omega)⟩
          have Htk := Lib.hid htk
          have hR2 := HR.out
          rw [hxk] at hR2
          have HR2 := Lib.hid hR2
          clear hxk htk hR2
          have hrl2 : (r.drop (k + 1)).length < 140737488351232 := by simp; omega
          go_wp2_with (fail)
          refine (next_cons w.heap.size g x (r.drop (k + 1)) _ hrl2 HR2.out).mono ?_
          rintro r2 w2 ⟨rfl, h5, hk5⟩
          have hrow2 := own_kp Hrow.out hk5 (fun b hb e => Hne.out b hb e)
          have hsz : w.heap.size ≤ w2.heap.size := Nat.le_trans Hkp.out.size hk5.size
          have Hrow2 := Lib.hid hrow2
          have H5 := Lib.hid h5
          have Hk5 := Lib.hid hk5
          clear hrow2 h5 hk5 h41 h42 h43
          go_wp2_with (at_builtin; refine wpList_append_own_at _ rfl _ _ 23 rfl w.heap.size 5 i0 (.int .u8 0) 1 1 Try.underlying23 hi hz0 hz1 hz2 rfl (by decide) _ _ _ rfl (Hrow2.out.alloc _) ⟨w2.heap.size, 0, none⟩ 1 1 [.int .u8 x] rfl rfl (cell_one_new _ _ _) (by simp [Value.oneCell']) (by unfold maxLen; omega) (by omega) (by simp; omega) ?_; intro v' w3 hown' hgrow _ hat; have Hown := Lib.hid hown'; have Hgrow := Lib.hid hgrow; clear hown' hgrow hat)
          go_roundw
          case rel =>
            have hkp3 : Kp (fun b => some b = v.ownBlock) w2 w3 := ((Kp.refl _ w2).alloc _).trans (Kp.of_grown (S := fun b => some b = v.ownBlock) Hgrow.out (fun b e => e.symm)) (fun _ _ e => e)
            have hlo : ∀ b, some b = v.ownBlock → w.heap.size ≤ b := fun b e => (Hrow2.out.lt b e.symm).1
            exact ⟨k + 1, _, rfl, by go_num, by omega, H5.out.kp hkp3 (fun e => Hne.out g e.symm rfl) (fun b hb e => by have := hlo b e; omega), by rw [Htk.out]; simpa using Hown.out, (Hkp.out.trans Hk5.out (fun _ _ e => e)).trans hkp3 (fun b hb e => by have := hlo b e; omega)⟩
          case measure => simp [intOf]; omega
        · obtain rfl : k = n := by omega
          go_wp2
          go_ret
          rw [E.out]
          have hl' : (r.take k).length = k := by simp; omega
          exact ⟨⟨v, rfl, by dsimp only; rw [hl']; exact Hrow.out⟩, HR.out, Hkp.out⟩
  · have hn0 := rU_err HU.out he
    subst hn0
    have E := Lib.hid (show rRaw xs = ([], r, e) from by unfold rRaw; rw [HU.out]; simp [he])
    have hb : (e == 0) = false := by simpa using he
    have hb2 : (e != 0) = true := by simpa using he
    go_wp2
    go_loop [7] (fun i => i = .int .u64 0) (fun _ => 0)
    case atStart => rfl
    case round =>
      subst hrel
      go_wp2
      go_ret
      rw [E.out]
      exact ⟨⟨_, rfl, World.ownsRow_nil _ _ _ _⟩, H'.out, hk⟩

set_option maxHeartbeats 400000 in
theorem RawR_ok (B g : Nat) (xs : List Int) (hx : Byt xs) (hl : xs.length < 17592186044416) (w : World) (h : Rdr B w g xs 0) :
    Calls Try.prog 52 #[.pointer (some ⟨g, 0, none⟩)] w fun r w' => (∃ v, r = .returned v ∧ w'.ownsRow w.heap.size 5 1 v (rRaw xs).1.length ((rRaw xs).1.map (.int .u8))) ∧ Rdr w.heap.size w' g (rRaw xs).2.1 (rRaw xs).2.2 ∧ Kp (fun k => k = g) w w' := by
  have H := Lib.hid h
  clear h
  go_enter Try.func52, Try.ntmps52
  go_wp2_with (fail)
  refine (list_ok B g xs hx hl w H.out).mono ?_
  rintro r w1 ⟨⟨v, rfl, ho⟩, hR, hk⟩
  have Ho := Lib.hid ho
  have HR := Lib.hid hR
  clear ho hR
  go_wp2
  go_ret
  exact ⟨⟨v, rfl, Ho.out⟩, HR.out, hk⟩
set_option maxHeartbeats 400000 in
theorem RawR_err (B g : Nat) (xs : List Int) (e : Int) (he : e ≠ 0) (w : World) (h : Rdr B w g xs e) :
    Calls Try.prog 52 #[.pointer (some ⟨g, 0, none⟩)] w fun r w' => r = .returned (.slice none 0 0) ∧ w = w' := by
  have H := Lib.hid h
  clear h
  go_enter Try.func52, Try.ntmps52
  go_wp2_with (fail)
  refine (list_err B g xs e he w H.out).mono ?_
  rintro r w1 ⟨rfl, rfl⟩
  go_wp2
  go_ret
  exact ⟨rfl, rfl⟩
end Go.Proofs.Ytajdkcpcgfipbaa
