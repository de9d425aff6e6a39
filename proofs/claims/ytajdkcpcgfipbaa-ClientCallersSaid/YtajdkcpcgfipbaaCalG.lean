/- ClientCallers: opens. -/
import Derived.Test.YtajdkcpcgfipbaaCalF
import Derived.Test.YtajdkcpcgfipbaaCliK
import Derived.Deep.RegionHeld3
namespace Go.Proofs.Ytajdkcpcgfipbaa
open Go.RowKit Go.Wm

theorem bq_drew {w W : World} (h : Below w.heap.size w W) : Below w.heap.size w W.drew := h.drew
theorem bq_call {w W W' : World} (h : Below w.heap.size w W) (k : Below W.heap.size W W') : Below w.heap.size w W' := h.trans (k.mono h.size)
set_option maxRecDepth 100000 in
set_option maxHeartbeats 4000000 in
theorem opens_any (gc gm : Nat) (q q2 : Option Nat) (s : Cal) (hs : s.l.length ≤ 16) (hb : ∀ r ∈ s.l, r.b.length ≤ 65536) (w : World) (h : CalAt w gc q s) (h2 : RCalAt w gm q2 s) :
    Calls Try.prog 58 #[.pointer (some ⟨gc, 0, none⟩), .pointer (some ⟨gm, 0, none⟩)] w fun e w' => e = .returned (.bool true) ∧ Below w.heap.size w w' := by
  have HAg := Lib.hid (Again_any gc q s hs hb w h)
  obtain ⟨A0, c0, cs0, h3, h4, h5, _⟩ := h2
  have H3 := Lib.hid h3
  have H4 := Lib.hid h4
  have H5 := Lib.hid h5
  have Hb := Lib.hid hb
  have hgl := (Array.getElem?_eq_some_iff.1 h3).1
  clear h h3 h4 h5 hb
  go_enter Try.func58, Try.ntmps58
  go_wp2_with (fail)
  refine HAg.out.mono ?_
  rintro e W1 ⟨⟨G, cs, rfl, hG, hcs, hL⟩, hb1⟩
  have y3 : W1.cell? ⟨gm, 3, none⟩ = some (.slice A0 s.l.length c0) := by rw [hb1.cell (p := ⟨gm, 3, none⟩) hgl]; simp [World.cell?, H3.out]
  have hGl := (Array.getElem?_eq_some_iff.1 hcs).1
  have hgl1 : gm < W1.heap.size := Nat.lt_of_lt_of_le hgl hb1.size
  have HB1 := Lib.hid hb1
  have Hcs := Lib.hid hcs
  have HL := Lib.hid hL
  have H41 := Lib.hid (H4.out.kp (Kp.of_below (S := fun _ => False) hb1) (fun _ _ e => e))
  have H51 := Lib.hid (lay_kpR H5.out (Kp.of_below (S := fun _ => False) hb1) (fun _ _ e => e.elim))
  clear hb1 hcs hL HAg hG
  go_wp2_with (fail)
  go_loopw [4, 6] (fun _ i wr => ∃ k : Nat, i = .int .i64 k ∧ k ≤ s.l.length ∧ Below W1.heap.size W1 wr) (fun _ i _ => s.l.length - (intOf i).toNat)
  case atStart => exact ⟨0, rfl, Nat.zero_le _, Below.refl _ _⟩
  case round =>
    obtain ⟨k, rfl, hk, hB⟩ := hrel
    by_cases hlt : k < s.l.length
    · obtain ⟨r, hr⟩ : ∃ r, s.l[k]? = some r := ⟨s.l[k], List.getElem?_eq_getElem hlt⟩
      obtain ⟨ch, a1, ⟨v, a2, hv⟩, a3⟩ := HL.out.get hr
      obtain ⟨ch', b1, ⟨v', b2, hv'⟩, b3⟩ := H51.out.get hr
      subst a2
      subst b2
      obtain ⟨Av, cv, rfl, hrv, _⟩ := hv.rd
      obtain ⟨Bv, dv, rfl, hrv', _⟩ := hv'.rd
      rcases H41.out.cells with ⟨_, e0, _, _⟩ | ⟨b0, o0, rfl, hb0, hcl⟩
      · omega
      · have hll := HL.out.length
        have g0 : W1.cell? ⟨G, k * 4, none⟩ = some (.int .i64 r.c) := by have := a3 0 (by omega); simp [World.cell?, Hcs.out]; simpa using this
        have g1 : W1.cell? ⟨G, k * 4 + 1, none⟩ = some (.int .i64 r.n) := by have := a3 1 (by omega); simp [World.cell?, Hcs.out]; simpa using this
        have g2 : W1.cell? ⟨G, k * 4 + 2, none⟩ = some (.slice Av r.b.length cv) := by have := a3 2 (by omega); simp [World.cell?, Hcs.out]; simpa using this
        have g3 : W1.cell? ⟨G, k * 4 + 3, none⟩ = some (.int .u64 r.t) := by have := a3 3 (by omega); simp [World.cell?, Hcs.out]; simpa using this
        have m0 : W1.cell? ⟨b0, o0 + k * 4, none⟩ = some (.int .i64 r.c) := (hcl _ _ (b3 0 (by omega))).1
        have m1 : W1.cell? ⟨b0, o0 + k * 4 + 1, none⟩ = some (.int .i64 r.n) := by rw [Nat.add_assoc]; exact (hcl _ _ (b3 1 (by omega))).1
        have m2 : W1.cell? ⟨b0, o0 + k * 4 + 2, none⟩ = some (.slice Bv r.b.length dv) := by rw [Nat.add_assoc]; exact (hcl _ _ (b3 2 (by omega))).1
        have m3 : W1.cell? ⟨b0, o0 + k * 4 + 3, none⟩ = some (.int .u64 r.t) := by rw [Nat.add_assoc]; exact (hcl _ _ (b3 3 (by omega))).1
        have HS := Lib.hid (show ∀ W', Below W1.heap.size W1 W' → Below W1.heap.size W1 W' ∧ W'.cell? ⟨gm, 3, none⟩ = some (.slice (some ⟨b0, o0, none⟩) s.l.length c0) ∧ W'.cell? ⟨G, k * 4, none⟩ = some (.int .i64 r.c) ∧ W'.cell? ⟨G, k * 4 + 1, none⟩ = some (.int .i64 r.n) ∧ W'.cell? ⟨G, k * 4 + 2, none⟩ = some (.slice Av r.b.length cv) ∧ W'.cell? ⟨G, k * 4 + 3, none⟩ = some (.int .u64 r.t) ∧ W'.cell? ⟨b0, o0 + k * 4, none⟩ = some (.int .i64 r.c) ∧ W'.cell? ⟨b0, o0 + k * 4 + 1, none⟩ = some (.int .i64 r.n) ∧ W'.cell? ⟨b0, o0 + k * 4 + 2, none⟩ = some (.slice Bv r.b.length dv) ∧ W'.cell? ⟨b0, o0 + k * 4 + 3, none⟩ = some (.int .u64 r.t) from fun W' h =>
          ⟨h, (h.cell (p := ⟨gm, 3, none⟩) hgl1).trans y3, (h.cell (p := ⟨G, k * 4, none⟩) hGl).trans g0, (h.cell (p := ⟨G, k * 4 + 1, none⟩) hGl).trans g1, (h.cell (p := ⟨G, k * 4 + 2, none⟩) hGl).trans g2, (h.cell (p := ⟨G, k * 4 + 3, none⟩) hGl).trans g3, (h.cell (p := ⟨b0, o0 + k * 4, none⟩) hb0).trans m0, (h.cell (p := ⟨b0, o0 + k * 4 + 1, none⟩) hb0).trans m1, (h.cell (p := ⟨b0, o0 + k * 4 + 2, none⟩) hb0).trans m2, (h.cell (p := ⟨b0, o0 + k * 4 + 3, none⟩) hb0).trans m3⟩)
        have HSm := Lib.hid (show ∀ W', Below W1.heap.size W1 W' → Calls Try.prog 24 #[.agg #[.int .i64 r.c, .int .i64 r.n, .slice Av r.b.length cv, .int .u64 r.t], .agg #[.int .i64 r.c, .int .i64 r.n, .slice Bv r.b.length dv, .int .u64 r.t]] W' fun e w' => e = .returned (.bool true) ∧ Below W'.heap.size W' w' from fun W' h => by
          have := Same37_any r r Av Bv cv dv (by have := Hb.out r (List.mem_of_getElem? hr); omega) W' (hrv.below h (Nat.le_refl _)) (hrv'.below h (Nat.le_refl _))
          rw [(sameRq_iff _ _).2 ⟨rfl, rfl, rfl, rfl⟩] at this
          exact this)
        have h0 := HS.out wr hB
        obtain ⟨_, n0, n1, n2, n3, n4, n5, n6, n7, n8⟩ := h0
        clear hr a1 a3 b1 b3 hv hv' hrv hrv' hcl g0 g1 g2 g3 m0 m1 m2 m3 y3 hll
        go_wp2_with (fail)
        go_region_held3 (fun W' => Below W1.heap.size W1 W' ∧ W'.cell? ⟨gm, 3, none⟩ = some (.slice (some ⟨b0, o0, none⟩) s.l.length c0) ∧ W'.cell? ⟨G, k * 4, none⟩ = some (.int .i64 r.c) ∧ W'.cell? ⟨G, k * 4 + 1, none⟩ = some (.int .i64 r.n) ∧ W'.cell? ⟨G, k * 4 + 2, none⟩ = some (.slice Av r.b.length cv) ∧ W'.cell? ⟨G, k * 4 + 3, none⟩ = some (.int .u64 r.t) ∧ W'.cell? ⟨b0, o0 + k * 4, none⟩ = some (.int .i64 r.c) ∧ W'.cell? ⟨b0, o0 + k * 4 + 1, none⟩ = some (.int .i64 r.n) ∧ W'.cell? ⟨b0, o0 + k * 4 + 2, none⟩ = some (.slice Bv r.b.length dv) ∧ W'.cell? ⟨b0, o0 + k * 4 + 3, none⟩ = some (.int .u64 r.t)) (exact HS.out _ (by ((repeat (first | with_reducible exact Below.refl _ _ | assumption | with_reducible refine bq_drew ?_ | refine bq_call ?_ (by assumption))); done))) (first
          | (go_at_call 23; refine (request37_any _ _ _ _ _ _ _).mono ?_; rintro e wE ⟨rfl, hbE⟩)
          | (go_at_call 24; refine (HSm.out _ (And.left (by assumption))).mono ?_; rintro e wF ⟨rfl, hbF⟩))
        have hBf : Below W1.heap.size W1 wF := by ((repeat (first | with_reducible exact Below.refl _ _ | assumption | with_reducible refine bq_drew ?_ | refine bq_call ?_ (by assumption))); done)
        have HBf := Lib.hid hBf
        clear hBf
        go_wp2_with (fail)
        go_roundw
        case rel => exact ⟨k + 1, by go_num, by omega, HBf.out⟩
        case measure => simp [intOf]; omega
    · have HBr := Lib.hid hB
      clear hB
      go_wp2_with (fail)
      go_ret
      exact ⟨rfl, HB1.out.trans (HBr.out.mono HB1.out.size)⟩
end Go.Proofs.Ytajdkcpcgfipbaa
