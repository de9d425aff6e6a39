/- The small functions of the reference models: Around, Few, SameBytes, SameLists. -/
import Derived.Test.YtajdkcpcgfipbaaWireD
import Derived.Test.YtajdkcpcgfipbaaMemC
import Derived.Test.YtajdkcpcgfipbaaPureC
import Derived.Deep.QuietTactic
import Derived.BigQuiet
namespace Go.Proofs.Ytajdkcpcgfipbaa
open Go.RowKit Go.Wm
attribute [local go_sem] min_int max_int

set_option maxHeartbeats 400000 in
/-- Around: a number below most -/
theorem Around_any (n m : Int) (h1 : -9223372036854775808 ≤ n) (h2 : n ≤ 9223372036854775807) (hm : 1 ≤ m) (hm2 : m ≤ 9223372036854775807) (w : World) :
    Calls Try.prog 15 #[.int .i64 n, .int .i64 m] w fun e w' => e = .returned (.int .i64 (aroundI n m)) ∧ w = w' := by
  by_cases hn : n < 0
  · have e := Lib.hid (show aroundI n m = (-(n + 1)) % m from by unfold aroundI; rw [if_pos hn])
    rw [e.out]
    have e2 := Lib.hid (show -(n + 1).tmod m = -(n + 1) % m from by rw [← Int.neg_tmod, Int.tmod_eq_emod_of_nonneg (by omega)])
    go_enter Try.func15, Try.ntmps15
    go_wp2
    go_ret
    exact ⟨by rw [← e2.out]; rfl, rfl⟩
  · have e := Lib.hid (show aroundI n m = n % m from by unfold aroundI; rw [if_neg hn])
    rw [e.out]
    go_enter Try.func15, Try.ntmps15
    go_wp2
    go_ret
    exact ⟨rfl, rfl⟩

set_option maxRecDepth 100000 in
set_option maxHeartbeats 400000 in
/-- Few: a copy of the first bytes -/
theorem Few_any (A : Option Addr) (c : Nat) (xs : List Int) (m : Nat) (hc : xs.length ≤ c) (hl : xs.length ≤ 9223372036854775807) (hm : m ≤ 1099511627776) (w : World) (hr : Rd .u8 w A xs) :
    Calls Try.prog 20 #[.slice A xs.length c, .int .i64 m] w fun e w' => (∃ v, e = .returned v ∧ w'.ownsRow w.heap.size 5 1 v (xs.take m).length ((xs.take m).map (.int .u8))) ∧ Below w.heap.size w w' := by
  obtain ⟨i0, hi, hz0, hz1, hz2⟩ := info_parts info_u8
  obtain ⟨q, hq⟩ : ∃ q : Nat, q = min xs.length m := ⟨_, rfl⟩
  have e1 : mnI (xs.length : Int) (m : Int) = (q : Int) := by rw [hq]; exact mnI_nat _ _
  have l1 : (xs.take m).length = q := by rw [hq, List.length_take, Nat.min_comm]
  have hq' : q ≤ xs.length := by omega
  have hqm : q ≤ m := by omega
  have Hr := Lib.hid (hr.take m)
  have L1 := Lib.hid l1
  have hr2 := hr
  clear hr hq l1
  cases A with
  | none =>
    have hx : xs = [] := by rcases hr2 with h | ⟨_, _, h, _⟩; exact h; cases h
    subst hx
    have hq0 : q = 0 := by simpa using hq'
    subst hq0
    clear hr2
    have e2 : mnI 0 (m : Int) = 0 := by simpa using e1
    go_enter Try.func20, Try.ntmps20
    go_wp2
    go_ret
    exact ⟨⟨_, rfl, by simpa using World.ownsRow_nil _ _ _ _⟩, Below.refl _ _⟩
  | some ad =>
    clear hr2
    go_enter Try.func20, Try.ntmps20
    go_wp2_with (at_builtin; refine wpList_append_own _ rfl _ _ 23 rfl w.heap.size 5 i0 (.int .u8 0) 1 1 Try.underlying23 hi hz0 hz1 hz2 rfl (by decide) _ _ _ rfl (World.ownsRow_nil _ _ _ _) ad q c ((xs.take m).map (.int .u8)) rfl (by simpa using L1.out) Hr.out.news (ones _ _) (by unfold maxLen; omega) (by omega) (Nat.le_refl _) ?_; intro v' w1 hown' hgrow _; have Hown := Lib.hid hown'; have Hgrow := Lib.hid hgrow; clear hown' hgrow)
    go_ret
    exact ⟨⟨_, rfl, by rw [L1.out]; simpa using Hown.out⟩, (Below.refl _ w).grown Hgrow.out (Nat.le_refl _) (fun k ek => by simp [Act.eval, Value.ownBlock] at ek)⟩

set_option maxRecDepth 100000 in
set_option maxHeartbeats 1000000 in
/-- SameBytes -/
theorem SameBytes_any (A A' : Option Addr) (c c' : Nat) (xs ys : List Int) (hl : xs.length ≤ 140737488351232) (w : World) (hr : Rd .u8 w A xs) (hr' : Rd .u8 w A' ys) :
    Calls Try.prog 39 #[.slice A xs.length c, .slice A' ys.length c'] w fun e w' => e = .returned (.bool (decide (xs = ys))) ∧ ∃ n, w' = w.drewN n := by
  by_cases hlen : xs.length = ys.length
  · have hd : ((xs.length : Int) != (ys.length : Int)) = false := by simp [hlen]
    have Hr := Lib.hid hr
    have Hr' := Lib.hid hr'
    have Hlen := Lib.hid hlen
    clear hr hr' hlen
    go_enter Try.func39, Try.ntmps39
    go_wp2
    go_loopw [5] (fun i wr => ∃ k : Nat, i = .int .i64 k ∧ k ≤ xs.length ∧ xs.take k = ys.take k ∧ ∃ n, wr = w.drewN n) (fun i _ => xs.length - (intOf i).toNat)
    case atStart => exact ⟨0, rfl, Nat.zero_le _, by simp, 0, rfl⟩
    case round =>
      obtain ⟨k, rfl, hk, htk, n, hn⟩ := hrel
      have Hn := Lib.hid hn
      have Htk := Lib.hid htk
      clear htk hn
      by_cases hlt : k < xs.length
      · have hky : k < ys.length := by have := Hlen.out; omega
        rcases Hr.out with h | ⟨b, off, rfl, hb, hc⟩
        · rw [h] at hlt; simp at hlt
        · rcases Hr'.out with h | ⟨b', off', rfl, hb', hc'⟩
          · rw [h] at hky; simp at hky
          · have h1 : wr.cell? ⟨b, off + k, none⟩ = some (.int .u8 (xs[k]?.getD 0)) := by rw [Hn.out]; exact hc k hlt
            have h2 : wr.cell? ⟨b', off' + k, none⟩ = some (.int .u8 (ys[k]?.getD 0)) := by rw [Hn.out]; exact hc' k hky
            clear hc hc'
            obtain ⟨x, hx⟩ : ∃ x, x = xs[k]?.getD 0 := ⟨_, rfl⟩
            obtain ⟨y, hy⟩ : ∃ y, y = ys[k]?.getD 0 := ⟨_, rfl⟩
            rw [← hx] at h1
            rw [← hy] at h2
            have Hx := Lib.hid (show xs.take (k + 1) = xs.take k ++ [x] from by rw [hx, List.take_succ_eq_append_getElem hlt]; simp [hlt])
            have Hy := Lib.hid (show ys.take (k + 1) = ys.take k ++ [y] from by rw [hy, List.take_succ_eq_append_getElem hky]; simp [hky])
            clear hx hy
            by_cases he : x = y
            · subst he
              go_wp2
              go_quiet (fail)
              go_wp2
              go_roundw
              case rel => exact ⟨k + 1, by go_num, by omega, by rw [Hx.out, Hy.out, Htk.out], _, by rw [Hn.out, World.drewN_drewN]⟩
              case measure => simp [intOf]; omega
            · have hd2 : (x != y) = true := by simp [he]
              have E := Lib.hid (show decide (xs = ys) = false from decide_eq_false (fun e => by
                have h3 := Hx.out
                rw [e, Hy.out] at h3
                have h4 := List.append_inj_right' h3 rfl
                simp at h4
                exact he h4.symm))
              clear he
              go_wp2
              go_quiet (fail)
              go_wp2
              go_ret
              exact ⟨by rw [E.out]; rfl, _, by rw [Hn.out, World.drewN_drewN]⟩
      · have E := Lib.hid (show decide (xs = ys) = true from decide_eq_true (by
          have h3 := Htk.out
          have h4 := Hlen.out
          rwa [List.take_of_length_le (by omega), List.take_of_length_le (by omega)] at h3))
        go_wp2
        go_ret
        exact ⟨by rw [E.out]; rfl, _, Hn.out⟩
  · have hd : ((xs.length : Int) != (ys.length : Int)) = true := by simp; omega
    have E := Lib.hid (show decide (xs = ys) = false from decide_eq_false (fun e => hlen (by rw [e])))
    rw [E.out]
    clear hr hr' hlen
    go_enter Try.func39, Try.ntmps39
    go_wp2
    go_ret
    exact ⟨rfl, 0, rfl⟩

theorem Rd.drewN {k : IntKind} {w : World} {A : Option Addr} {xs : List Int} (h : Rd k w A xs) (n : Nat) : Rd k (w.drewN n) A xs := h
theorem RdL.drewN {w : World} {A : Option Addr} {xss : List (List Int)} (h : RdL w A xss) (n : Nat) : RdL (w.drewN n) A xss := h

set_option maxRecDepth 100000 in
set_option maxHeartbeats 1000000 in
/-- SameLists -/
theorem SameLists_any (A A' : Option Addr) (c c' : Nat) (xs ys : List (List Int)) (hl : xs.length ≤ 140737488351232) (hb : ∀ t ∈ xs, t.length ≤ 140737488351232) (w : World) (hr : RdL w A xs) (hr' : RdL w A' ys) :
    Calls Try.prog 45 #[.slice A xs.length c, .slice A' ys.length c'] w fun e w' => e = .returned (.bool (decide (xs = ys))) ∧ ∃ n, w' = w.drewN n := by
  by_cases hlen : xs.length = ys.length
  · have hd : ((xs.length : Int) != (ys.length : Int)) = false := by simp [hlen]
    have Hr := Lib.hid hr
    have Hr' := Lib.hid hr'
    have Hlen := Lib.hid hlen
    have Hb := Lib.hid hb
    clear hr hr' hlen hb
    go_enter Try.func45, Try.ntmps45
    go_wp2
    go_loopw [5] (fun i wr => ∃ k : Nat, i = .int .i64 k ∧ k ≤ xs.length ∧ xs.take k = ys.take k ∧ ∃ n, wr = w.drewN n) (fun i _ => xs.length - (intOf i).toNat)
    case atStart => exact ⟨0, rfl, Nat.zero_le _, by simp, 0, rfl⟩
    case round =>
      obtain ⟨k, rfl, hk, htk, n, hn⟩ := hrel
      have Hn := Lib.hid hn
      have Htk := Lib.hid htk
      clear htk hn
      by_cases hlt : k < xs.length
      · have hky : k < ys.length := by have := Hlen.out; omega
        rcases Hr.out with h | ⟨b, off, rfl, hb, hc⟩
        · rw [h] at hlt; simp at hlt
        · rcases Hr'.out with h | ⟨b', off', rfl, hb', hc'⟩
          · rw [h] at hky; simp at hky
          · obtain ⟨A1, c1, h1, q1, r1⟩ := hc k hlt
            obtain ⟨A2, c2, h2, q2, r2⟩ := hc' k hky
            replace h1 : wr.cell? ⟨b, off + k, none⟩ = some (.slice A1 (xs[k]?.getD []).length c1) := by rw [Hn.out]; exact h1
            replace h2 : wr.cell? ⟨b', off' + k, none⟩ = some (.slice A2 (ys[k]?.getD []).length c2) := by rw [Hn.out]; exact h2
            replace r1 : Rd .u8 wr A1 (xs[k]?.getD []) := by rw [Hn.out]; exact r1
            replace r2 : Rd .u8 wr A2 (ys[k]?.getD []) := by rw [Hn.out]; exact r2
            clear hc hc'
            obtain ⟨x, hx⟩ : ∃ x, x = xs[k]?.getD [] := ⟨_, rfl⟩
            obtain ⟨y, hy⟩ : ∃ y, y = ys[k]?.getD [] := ⟨_, rfl⟩
            rw [← hx] at h1 r1
            rw [← hy] at h2 r2
            have Hx := Lib.hid (show xs.take (k + 1) = xs.take k ++ [x] from by rw [hx, List.take_succ_eq_append_getElem hlt]; simp [hlt])
            have Hy := Lib.hid (show ys.take (k + 1) = ys.take k ++ [y] from by rw [hy, List.take_succ_eq_append_getElem hky]; simp [hky])
            have lx : x.length ≤ 140737488351232 := Hb.out x (by rw [hx]; simp [hlt])
            clear hx hy q1 q2
            have HR1 := Lib.hid r1
            have HR2 := Lib.hid r2
            clear r1 r2
            have hS : ∀ m, Calls Try.prog 39 #[.slice A1 x.length c1, .slice A2 y.length c2] (wr.drewN m) fun e w' => e = .returned (.bool (decide (x = y))) ∧ ∃ n, w' = (wr.drewN m).drewN n := fun m =>
              SameBytes_any A1 A2 c1 c2 x y lx (wr.drewN m) (Rd.drewN HR1.out m) (Rd.drewN HR2.out m)
            by_cases he : x = y
            · rw [decide_eq_true he] at hS
              have HS := Lib.hid hS
              have He := Lib.hid he
              clear hS he
              go_wp2
              go_quiet ((go_at_call 39; exact Calls.quiet_of (HS.out _)))
              go_wp2
              go_roundw
              case rel => exact ⟨k + 1, by go_num, by omega, by rw [Hx.out, Hy.out, Htk.out, He.out], _, by rw [Hn.out, World.drewN_drewN]⟩
              case measure => simp [intOf]; omega
            · rw [decide_eq_false he] at hS
              have HS := Lib.hid hS
              have E := Lib.hid (show decide (xs = ys) = false from decide_eq_false (fun e => by
                have h3 := Hx.out
                rw [e, Hy.out] at h3
                have h4 := List.append_inj_right' h3 rfl
                simp at h4
                exact he h4.symm))
              clear hS he
              go_wp2
              go_quiet ((go_at_call 39; exact Calls.quiet_of (HS.out _)))
              go_wp2
              go_ret
              exact ⟨by rw [E.out]; rfl, _, by rw [Hn.out, World.drewN_drewN]⟩
      · have E := Lib.hid (show decide (xs = ys) = true from decide_eq_true (by
          have h3 := Htk.out
          have h4 := Hlen.out
          rwa [List.take_of_length_le (by omega), List.take_of_length_le (by omega)] at h3))
        go_wp2
        go_ret
        exact ⟨by rw [E.out]; rfl, _, Hn.out⟩
  · have hd : ((xs.length : Int) != (ys.length : Int)) = true := by simp; omega
    have E := Lib.hid (show decide (xs = ys) = false from decide_eq_false (fun e => hlen (by rw [e])))
    rw [E.out]
    clear hr hr' hlen hb
    go_enter Try.func45, Try.ntmps45
    go_wp2
    go_ret
    exact ⟨rfl, 0, rfl⟩
end Go.Proofs.Ytajdkcpcgfipbaa
