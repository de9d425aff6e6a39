/- Package client: Got: slices.IndexFunc with its closure. -/
import Derived.Test.YtajdkcpcgfipbaaCliH
namespace Go.Proofs.Ytajdkcpcgfipbaa
open Go.RowKit Go.Wm

/-- the first request of that number, or -1 -/
def idxI (num : Int) : List Rq → Int
  | [] => -1
  | r :: l => if r.n = num then 0 else if idxI num l = -1 then -1 else idxI num l + 1

theorem idxI_range (num : Int) : ∀ l : List Rq, -1 ≤ idxI num l ∧ idxI num l < l.length
  | [] => by simp [idxI]
  | r :: l => by
    have := idxI_range num l
    unfold idxI
    rw [List.length_cons]
    split
    · omega
    · split <;> omega
theorem idxI_at (num : Int) : ∀ (l : List Rq) (k : Nat) (r : Rq), l[k]? = some r → r.n = num → (∀ j, j < k → ∀ x, l[j]? = some x → x.n ≠ num) → idxI num l = k
  | [], k, r, h, _, _ => by simp at h
  | y :: l, 0, r, h, hr, _ => by simp at h; subst h; simp [idxI, hr]
  | y :: l, k + 1, r, h, hr, hn => by
    have h0 := hn 0 (by omega) y (by simp)
    have ih := idxI_at num l k r (by simpa using h) hr (fun j hj x hx => hn (j + 1) (by omega) x (by simpa using hx))
    unfold idxI
    rw [if_neg h0, if_neg (by omega), ih]
    omega
theorem idxI_none (num : Int) : ∀ (l : List Rq), (∀ (j : Nat) x, l[j]? = some x → x.n ≠ num) → idxI num l = -1
  | [], _ => rfl
  | y :: l, hn => by
    have h0 := hn 0 y (by simp)
    have ih := idxI_none num l (fun j x hx => hn (j + 1) x (by simpa using hx))
    unfold idxI
    rw [if_neg h0, if_pos ih]
theorem cell_lt {w : World} {b o : Nat} {v : Value} (h : w.cell? ⟨b, o, none⟩ = some v) : b < w.heap.size := by
  by_cases hb : b < w.heap.size
  · exact hb
  · simp [World.cell?, Array.getElem?_eq_none (Nat.le_of_not_lt hb)] at h
set_option maxRecDepth 100000 in
set_option maxHeartbeats 1000000 in
theorem Got1_any (num a n t : Int) (sl : Value) (A : Option Addr) (l c bn : Nat) (hsl : sl = .slice A l c) (w : World) (hb : w.cell? ⟨bn, 0, none⟩ = some (.int .i64 num)) :
    Calls Try.prog 94 #[.agg #[.int .i64 a, .int .i64 n, sl, .int .u64 t], .pointer (some ⟨bn, 0, none⟩)] w fun e w' => e = .returned (.bool (n == num)) ∧ Below w.heap.size w w' := by
  subst hsl
  have hbl := cell_lt hb
  have hb2 : (w.alloc (.cells #[.int .i64 a, .int .i64 n, .slice A l c, .int .u64 t] 32)).cell? ⟨bn, 0, none⟩ = some (.int .i64 num) := (((Below.refl _ w).alloc (Nat.le_refl _) _).cell (p := ⟨bn, 0, none⟩) hbl).trans hb
  clear hb
  go_enter Try.func94, Try.ntmps94
  go_wp2
  go_ret
  exact ⟨rfl, (Below.refl _ w).alloc (Nat.le_refl _) _⟩
set_option maxRecDepth 100000 in
set_option maxHeartbeats 4000000 in
theorem IndexFunc_any (num : Int) (bn : Nat) (l : List Rq) (A : Option Addr) (c : Nat) (cs : List Value) (hl : l.length ≤ 1000) (w : World) (ha : Arr w 32 4 A l.length c cs) (hy : Lay 4 (RqE w) l cs) (hb : w.cell? ⟨bn, 0, none⟩ = some (.int .i64 num)) :
    Calls Try.prog 93 #[.slice A l.length c, .func (.func 94) #[] #[.pointer (some ⟨bn, 0, none⟩)]] w fun e w' => e = .returned (.int .i64 (idxI num l)) ∧ Below w.heap.size w w' := by
  have Ha := Lib.hid ha
  have Hy := Lib.hid hy
  have Hb := Lib.hid hb
  clear ha hy hb
  go_enter Try.func93, Try.ntmps93
  go_wp2_with (fail)
  go_loopw [4, 5, 8] (fun _ _ i wr => ∃ k : Nat, i = .int .i64 k ∧ k ≤ l.length ∧ (∀ j, j < k → ∀ r, l[j]? = some r → r.n ≠ num) ∧ Below w.heap.size w wr) (fun _ _ i _ => l.length - (intOf i).toNat)
  case atStart => exact ⟨0, rfl, Nat.zero_le _, fun j hj => absurd hj (by omega), Below.refl _ _⟩
  case round =>
    obtain ⟨k, rfl, hk, hne, hB⟩ := hrel
    have Hne := Lib.hid hne
    have HB := Lib.hid hB
    clear hne hB
    by_cases hlt : k < l.length
    · obtain ⟨r, hr⟩ : ∃ r, l[k]? = some r := ⟨l[k], List.getElem?_eq_getElem hlt⟩
      obtain ⟨ch, hc1, ⟨v, hc2, hv⟩, hc3⟩ := Hy.out.get hr
      have Hr := Lib.hid hr
      rcases Ha.out.cells with ⟨_, e0, _, _⟩ | ⟨g, off, rfl, hg, hcl⟩
      · omega
      · have hgw := HB.out
        obtain ⟨Av, cv, rfl, hrv, hcv⟩ := hv.rd
        subst hc2
        have q0 : wr.cell? ⟨g, off + k * 4, none⟩ = some (.int .i64 r.c) := (HB.out.cell (p := ⟨g, off + k * 4, none⟩) hg).trans (hcl _ _ (hc3 0 (by omega))).1
        have q1 : wr.cell? ⟨g, off + k * 4 + 1, none⟩ = some (.int .i64 r.n) := (HB.out.cell (p := ⟨g, off + k * 4 + 1, none⟩) hg).trans (by rw [Nat.add_assoc]; exact (hcl _ _ (hc3 1 (by omega))).1)
        have q2 : wr.cell? ⟨g, off + k * 4 + 2, none⟩ = some (.slice Av r.b.length cv) := (HB.out.cell (p := ⟨g, off + k * 4 + 2, none⟩) hg).trans (by rw [Nat.add_assoc]; exact (hcl _ _ (hc3 2 (by omega))).1)
        have q3 : wr.cell? ⟨g, off + k * 4 + 3, none⟩ = some (.int .u64 r.t) := (HB.out.cell (p := ⟨g, off + k * 4 + 3, none⟩) hg).trans (by rw [Nat.add_assoc]; exact (hcl _ _ (hc3 3 (by omega))).1)
        clear hcl hgw hc3 hc1 hv hrv hcv
        go_wp2_with (fail)
        refine (Got1_any num r.c r.n r.t _ Av r.b.length cv bn rfl wr ((HB.out.cell (p := ⟨bn, 0, none⟩) (cell_lt Hb.out)).trans Hb.out)).mono ?_
        rintro e w2 ⟨rfl, hb2⟩
        have HB2 := Lib.hid (HB.out.trans (hb2.mono HB.out.size))
        clear hb2 q0 q1 q2 q3
        by_cases hn : r.n = num
        · have hd : (r.n == num) = true := by simp [hn]
          have HI := Lib.hid (idxI_at num l k r Hr.out hn Hne.out)
          clear hn
          go_wp2_with (fail)
          go_ret
          exact ⟨by rw [HI.out]; rfl, HB2.out⟩
        · have hd : (r.n == num) = false := by simp [hn]
          have Hn := Lib.hid hn
          clear hn
          go_wp2_with (fail)
          go_roundw
          case rel =>
            refine ⟨k + 1, by go_num, by omega, fun j hj x hx => ?_, HB2.out⟩
            by_cases hjk : j = k
            · subst hjk
              rw [Hr.out] at hx
              cases hx
              exact Hn.out
            · exact Hne.out j (by omega) x hx
          case measure => simp [intOf]; omega
    · have HI := Lib.hid (idxI_none num l (fun j x hx => Hne.out j (by have := (List.getElem?_eq_some_iff.1 hx).1; omega) x hx))
      go_wp2_with (fail)
      go_ret
      exact ⟨by rw [HI.out]; rfl, HB.out⟩
end Go.Proofs.Ytajdkcpcgfipbaa
