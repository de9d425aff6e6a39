/- ClientCallers: the walk. -/
import Derived.Test.YtajdkcpcgfipbaaCalK
import Derived.Deep.RegionHeld3
import Derived.Deep.DeepCutAuto
import Derived.Deep.QuietTactic
import Derived.BigQuiet
namespace Go.Proofs.Ytajdkcpcgfipbaa
open Go.RowKit Go.Wm

theorem Pr2.new (w : World) (id key : Int) : Pr2 w ((w.alloc (.cells #[.int .i64 id, .int .u64 key, .int .i64 0, .slice none 0 0] 114)).alloc (.cells #[.int .i64 id, .int .u64 key, .int .i64 0, .slice none 0 0] 83)) w.heap.size (w.heap.size + 1) ⟨id, key, 0, []⟩ ⟨id, key, 0, []⟩ := by
  have h2 := RCalAt.new (w.alloc (.cells #[.int .i64 id, .int .u64 key, .int .i64 0, .slice none 0 0] 114)) id key
  rw [World.size_alloc] at h2
  exact ⟨none, none, (CalAt.new w id key).below ((Below.refl _ _).alloc (Nat.le_refl _) _), h2, ((Below.refl _ w).alloc (Nat.le_refl _) _).alloc (by simp) _, Nat.le_refl _, Nat.le_succ _, (fun _ e => by cases e), (fun _ e => by cases e)⟩

set_option maxRecDepth 100000 in
set_option maxHeartbeats 4000000 in
theorem callers_walk (id key : Int) (A2 : Option Addr) (c2 : Nat) (ls : List Int) (hls : ∀ x ∈ ls, I64 x) (w : World) (hr2 : Rd .i64 w A2 ls) :
    Calls Try.prog 8 #[.int .i64 id, .int .u64 key, .slice A2 ls.length c2] w fun e w' => e = .returned (.bool true) ∧ Below w.heap.size w w' := by
  have Hr2 := Lib.hid hr2
  have Hls := Lib.hid hls
  clear hr2 hls
  go_enter Try.func8, Try.ntmps8
  go_wp2_with (fail)
  refine (CCall_any id key w).mono ?_
  rintro e W1 ⟨rfl, hW1⟩
  have HW1 := Lib.hid hW1
  have hz : W1.heap.size = w.heap.size + 1 := by rw [hW1]; simp
  have Hz := Lib.hid hz
  clear hW1 hz
  go_wp2_with (fail)
  obtain ⟨W2, hW2⟩ : ∃ W2, W2 = W1.alloc (.cells #[.int .i64 id, .int .u64 key, .int .i64 0, .slice none 0 0] 83) := ⟨_, rfl⟩
  have hp := Pr2.new w id key
  rw [← HW1.out, ← hW2] at hp
  rw [← hW2, Hz.out]
  have Hp := Lib.hid hp
  clear hp hW2
  go_loopw [9, 10, 11, 12, 13, 14, 15, 16] (fun i _ _ _ _ _ _ _ wr => ∃ (j : Nat) (st : Cal), i = .int .i64 j ∧ j ≤ 81 ∧ CalOk st j ∧ Pr2 w wr w.heap.size (w.heap.size + 1) st st) (fun i _ _ _ _ _ _ _ _ => 100 - (intOf i).toNat)
  case atStart => exact ⟨0, _, rfl, by omega, CalOk.new id key, Hp.out⟩
  case round =>
    obtain ⟨j, st, rfl, hj, hok, hp⟩ := hrel
    have Hok := Lib.hid hok
    have HP := Lib.hid hp
    clear hok hp
    by_cases hgo : j + 1 < ls.length ∧ j < 80
    · obtain ⟨hj1, hj80⟩ := hgo
      obtain ⟨b0, o0, rfl, hb0, hc⟩ : ∃ b off, A2 = some ⟨b, off, none⟩ ∧ b < w.heap.size ∧ ∀ t, t < ls.length → w.cell? ⟨b, off + t, none⟩ = some (.int .i64 (ls[t]?.getD 0)) := by
        rcases Hr2.out with h | h
        · rw [h] at hj1; simp at hj1
        · exact h
      obtain ⟨x, hx⟩ : ∃ x, x = ls[j]?.getD 0 := ⟨_, rfl⟩
      obtain ⟨y, hy⟩ : ∃ y, y = ls[j + 1]?.getD 0 := ⟨_, rfl⟩
      have hcx := hc j (by omega)
      have hcy := hc (j + 1) (by omega)
      rw [← hx] at hcx
      rw [← hy] at hcy
      have Hcx := Lib.hid hcx
      have Hcy := Lib.hid hcy
      have HX := Lib.hid hx
      have HY := Lib.hid hy
      have hB := (show Below w.heap.size w wr by obtain ⟨_, _, _, _, h, _⟩ := HP.out; exact h)
      have z1 : wr.cell? ⟨b0, o0 + (j + 1), none⟩ = some (.int .i64 y) := (hB.cell (p := ⟨b0, o0 + (j + 1), none⟩) hb0).trans hcy
      have z0 : wr.cell? ⟨b0, o0 + j, none⟩ = some (.int .i64 x) := (hB.cell (p := ⟨b0, o0 + j, none⟩) hb0).trans hcx
      clear hc hcx hcy hx hy hB
      have hmem : ∀ t, t < ls.length → I64 (ls[t]?.getD 0) := fun t ht => by rw [List.getElem?_eq_getElem ht]; exact Hls.out _ (List.getElem_mem ht)
      have Hyi := Lib.hid (show I64 y by rw [HY.out]; exact hmem _ (by omega))
      have Hxi := Lib.hid (show I64 x by rw [HX.out]; exact hmem _ (by omega))
      clear hmem
      go_wp2_with (fail)
      refine (Body_any y Hyi.out wr).mono ?_
      rintro e w1 ⟨⟨Ab, cb, b, rfl, hvb, hbb, hbl⟩, hb1⟩
      have hvb_cap : b.length ≤ cb := by obtain ⟨_, _, e, _, h⟩ := hvb.rd; cases e; exact h
      have hp1 := HP.out.below hb1
      have hB1 := (show Below w.heap.size w w1 by obtain ⟨_, _, _, _, h, _⟩ := hp1; exact h)
      have z2 : w1.cell? ⟨b0, o0 + j, none⟩ = some (.int .i64 x) := (hB1.cell (p := ⟨b0, o0 + j, none⟩) hb0).trans Hcx.out
      have hxr := (i64_iff _).1 Hxi.out
      have HA := Lib.hid (Around_any x 9 hxr.1 hxr.2 (by decide) (by decide) w1)
      have Hvb := Lib.hid hvb
      have Hbb := Lib.hid hbb
      have HP1 := Lib.hid hp1
      clear hvb hbb hp1 hb1 hB1 z0 z1 HP
      go_wp2_with (fail)
      refine HA.out.mono ?_
      rintro e w2 ⟨rfl, rfl⟩
      obtain ⟨k0, k1⟩ := aroundI_range x 9 (by decide)
      obtain ⟨kk, hkk⟩ : ∃ kk, kk = aroundI x 9 := ⟨_, rfl⟩
      rw [← hkk] at k0 k1 ⊢
      clear hkk HA
      obtain ⟨o1, o2, o3, o4⟩ := Hok.out
      by_cases h5 : kk < 5
      · have e5 : decide (kk < 5) = true := decide_eq_true h5
        have hcb := hvb_cap
        have HSd := Lib.hid (HP1.out.sendX b Ab cb Hbb.out hbl o1 ⟨o3, by omega⟩ Hvb.out.toR)
        obtain ⟨rq, hrq⟩ : ∃ rq, rq = sendR st b := ⟨_, rfl⟩
        obtain ⟨ev, hev⟩ : ∃ ev, ev = sendE st b := ⟨_, rfl⟩
        rw [← hrq, ← hev] at HSd
        have Hrq := Lib.hid hrq
        have Hev := Lib.hid hev
        clear o2 z2 h5 hrq hev
        go_wp2_with (fail)
        refine HSd.out.mono ?_
        rintro e w3 ⟨⟨A3, c3, rfl, hv3⟩, hp3, hk3⟩
        have hvb3 := hk3 _ _ Hvb.out
        obtain ⟨W4, hW4⟩ : ∃ W4, W4 = w3.alloc (.cells #[.int .i64 rq.c, .int .i64 rq.n, .slice A3 rq.b.length c3, .int .u64 rq.t] 32) := ⟨_, rfl⟩
        obtain ⟨ba, hba⟩ : ∃ ba, ba = w3.heap.size := ⟨_, rfl⟩
        have hb4 : Below w3.heap.size w3 W4 := by rw [hW4]; exact (Below.refl _ _).alloc (Nat.le_refl _) _
        have hx4 : W4.heap[ba]? = some (.cells #[.int .i64 rq.c, .int .i64 rq.n, .slice A3 rq.b.length c3, .int .u64 rq.t] 32 (0, 0)) := by rw [hW4, hba]; exact heap_alloc_new w3 _
        have Hv4 := Lib.hid (hv3.below hb4)
        have hp4 := hp3.below hb4
        have hRd := hp4.rsendX b Ab cb Hbb.out hcb hbl o1 ⟨o3, by omega⟩ (hvb3.below hb4).toR
        rw [← Hrq.out, ← Hev.out] at hRd
        have HRd := Lib.hid hRd
        have HW4 := Lib.hid hW4
        have Hba := Lib.hid hba
        have Hx4 := Lib.hid hx4
        clear hv3 hp3 hk3 hvb3 hW4 hb4 hx4 HSd hp4 hRd hba
        go_wp2_with (fail)
        rw [← HW4.out, ← Hba.out]
        clear HW4 Hba
        refine HRd.out.mono ?_
        rintro e w5 ⟨⟨A5, c5, rfl, hv5⟩, hp5, hk5, hq5⟩
        obtain ⟨W6, hW6⟩ : ∃ W6, W6 = w5.alloc (.cells #[.int .i64 rq.c, .int .i64 rq.n, .slice A5 rq.b.length c5, .int .u64 rq.t] 37) := ⟨_, rfl⟩
        obtain ⟨bb, hbb⟩ : ∃ bb, bb = w5.heap.size := ⟨_, rfl⟩
        have hb6 : Below w5.heap.size w5 W6 := by rw [hW6]; exact (Below.refl _ _).alloc (Nat.le_refl _) _
        have hx6 : W6.heap[bb]? = some (.cells #[.int .i64 rq.c, .int .i64 rq.n, .slice A5 rq.b.length c5, .int .u64 rq.t] 37 (0, 0)) := by rw [hW6, hbb]; exact heap_alloc_new w5 _
        have hx46 := KpRq.bel hb6 _ _ (hq5 _ _ Hx4.out)
        have hv46 := (hk5 _ _ Hv4.out).below hb6
        have hv6 := hv5.below hb6
        have hp6 := hp5.below hb6
        have hxl4 := (Array.getElem?_eq_some_iff.1 hx46).1
        have hxl6 := (Array.getElem?_eq_some_iff.1 hx6).1
        have hrl : rq.b.length ≤ 65538 := by rw [Hrq.out]; exact sendR_len hbl
        have HS := Lib.hid (show ∀ W', Below W6.heap.size W6 W' → Below W6.heap.size W6 W' ∧ W'.cell? ⟨ba, 0, none⟩ = some (.int .i64 rq.c) ∧ W'.cell? ⟨ba, 1, none⟩ = some (.int .i64 rq.n) ∧ W'.cell? ⟨ba, 2, none⟩ = some (.slice A3 rq.b.length c3) ∧ W'.cell? ⟨ba, 3, none⟩ = some (.int .u64 rq.t) ∧ W'.cell? ⟨bb, 0, none⟩ = some (.int .i64 rq.c) ∧ W'.cell? ⟨bb, 1, none⟩ = some (.int .i64 rq.n) ∧ W'.cell? ⟨bb, 2, none⟩ = some (.slice A5 rq.b.length c5) ∧ W'.cell? ⟨bb, 3, none⟩ = some (.int .u64 rq.t) from fun W' h => by
          have e1 := (h.block ba hxl4).trans hx46
          have e2 := (h.block bb hxl6).trans hx6
          exact ⟨h, by simp [World.cell?, e1], by simp [World.cell?, e1], by simp [World.cell?, e1], by simp [World.cell?, e1], by simp [World.cell?, e2], by simp [World.cell?, e2], by simp [World.cell?, e2], by simp [World.cell?, e2]⟩)
        have HSm := Lib.hid (show ∀ W', Below W6.heap.size W6 W' → Calls Try.prog 24 #[.agg #[.int .i64 rq.c, .int .i64 rq.n, .slice A3 rq.b.length c3, .int .u64 rq.t], .agg #[.int .i64 rq.c, .int .i64 rq.n, .slice A5 rq.b.length c5, .int .u64 rq.t]] W' fun e w' => e = .returned (.bool true) ∧ Below W'.heap.size W' w' from fun W' h => by
          have := Same37_any rq rq A3 A5 c3 c5 (by omega) W' (hv46.toRd.below h (Nat.le_refl _)) (hv6.toRd.below h (Nat.le_refl _))
          rw [(sameRq_iff _ _).2 ⟨rfl, rfl, rfl, rfl⟩] at this
          exact this)
        obtain ⟨_, n1, n2, n3, n4, n5, n6, n7, n8⟩ := HS.out W6 (Below.refl _ _)
        have hok6 := (Hok.out.sendT b).up (M := ((j + 2 : Nat) : Int)) (by omega)
        have HP6 := Lib.hid hp6
        have HW6 := Lib.hid hW6
        have Hbb := Lib.hid hbb
        have Hok6 := Lib.hid hok6
        clear hx46 hx6 hv46 hv6 hp6 hv5 hp5 hk5 hq5 hb6 hW6 hbb hok6 HRd Hok
        go_wp2_with (fail)
        rw [← HW6.out, ← Hbb.out]
        clear HW6 Hbb
        go_region_held3 (fun W' => Below W6.heap.size W6 W' ∧ W'.cell? ⟨ba, 0, none⟩ = some (.int .i64 rq.c) ∧ W'.cell? ⟨ba, 1, none⟩ = some (.int .i64 rq.n) ∧ W'.cell? ⟨ba, 2, none⟩ = some (.slice A3 rq.b.length c3) ∧ W'.cell? ⟨ba, 3, none⟩ = some (.int .u64 rq.t) ∧ W'.cell? ⟨bb, 0, none⟩ = some (.int .i64 rq.c) ∧ W'.cell? ⟨bb, 1, none⟩ = some (.int .i64 rq.n) ∧ W'.cell? ⟨bb, 2, none⟩ = some (.slice A5 rq.b.length c5) ∧ W'.cell? ⟨bb, 3, none⟩ = some (.int .u64 rq.t)) (exact HS.out _ (by ((repeat (first | with_reducible exact Below.refl _ _ | assumption | with_reducible refine bq_drew ?_ | refine bq_call ?_ (by assumption))); done))) (first
          | (go_at_call 23; refine (request37_any _ _ _ _ _ _ _).mono ?_; rintro e wE ⟨rfl, hbE⟩)
          | (go_at_call 24; refine (HSm.out _ (And.left (by assumption))).mono ?_; rintro e wF ⟨rfl, hbF⟩))
        have hBf : Below W6.heap.size W6 wF := by ((repeat (first | with_reducible exact Below.refl _ _ | assumption | with_reducible refine bq_drew ?_ | refine bq_call ?_ (by assumption))); done)
        have HOp := Lib.hid ((HP6.out.below hBf).opens Hok6.out.1 Hok6.out.2.1)
        clear hBf hbE hbF HS HSm n1 n2 n3 n4 n5 n6 n7 n8
        go_wp2_with (fail)
        refine HOp.out.mono ?_
        rintro e w7 ⟨rfl, hp7⟩
        have HP7 := Lib.hid hp7
        clear hp7 HOp
        go_wp2_with (fail)
        go_roundw
        case rel => exact ⟨j + 2, _, by go_num, by omega, Hok6.out, HP7.out⟩
        case measure => simp [intOf]; omega
      · have e5 : decide (kk < 5) = false := decide_eq_false h5
        obtain ⟨hgm, z3⟩ := HP1.out.many
        have hxt := tdiv_rng hxr (d := 9) (by omega)
        have HA2 := Lib.hid (fun W => (Around_any (x.tdiv 9) (st.many + 3) hxt.1 hxt.2 (by omega) (by omega) W).mono fun e w' (h : _ ∧ W = w') => And.intro h.1 h.2.symm)
        obtain ⟨g0, g1⟩ := aroundI_range (x.tdiv 9) (st.many + 3) (by omega)
        obtain ⟨nn, hnn⟩ : ∃ nn, nn = aroundI (x.tdiv 9) (st.many + 3) := ⟨_, rfl⟩
        rw [← hnn] at g0 g1
        simp only [← hnn] at HA2
        have hj0 : (0 : Int) ≤ (j : Int) := by omega
        have hjl : (j : Int) < (ls.length : Int) := by omega
        have hjt : ((j : Int)).toNat = j := by omega
        have hxq : IntKind.i64.wrap (x.tdiv 9) = x.tdiv 9 := IntWalk.i64_in _ (by omega)
        have hm3 : IntKind.i64.wrap (st.many + 3) = st.many + 3 := IntWalk.i64_in _ (by omega)
        have hn1 : IntKind.i64.wrap (nn - 1) = nn - 1 := IntWalk.i64_in _ (by omega)
        clear hnn h5
        go_wp2_with (fail)
        go_quiet ((go_at_call 15; exact Calls.quiet_of_same (HA2.out _)))
        clear HA2 g0 g1 hxq hm3 hn1 hxt hj0 hjl hjt z3
        by_cases h8 : kk = 8
        · have e8 : (kk == 8) = true := by simp [h8]
          clear h8
          go_wp2_with (fail)
          refine ((HP1.out.below (drewN_below w1 _)).got x b.length Ab cb o1 hbl).mono ?_
          rintro e w3 ⟨rfl, hp3, hk3⟩
          obtain ⟨ev, hev⟩ : ∃ ev, ev = gotE st x b.length := ⟨_, rfl⟩
          have hRg := hp3.rgot x b.length Ab cb o1 hbl
          rw [← hev] at hRg ⊢
          have HRg := Lib.hid hRg
          clear hp3 hk3 hev hRg
          go_wp2_with (fail)
          refine HRg.out.mono ?_
          rintro e w4 ⟨rfl, hp4, hk4⟩
          have hok4 := (Hok.out.got x b.length).up (M := ((j + 2 : Nat) : Int)) (by omega)
          have Hok4 := Lib.hid hok4
          have HOp := Lib.hid (hp4.opens hok4.1 hok4.2.1)
          clear hp4 hk4 HRg hok4 Hok
          go_wp2_with (fail)
          refine HOp.out.mono ?_
          rintro e w7 ⟨rfl, hp7⟩
          have HP7 := Lib.hid hp7
          clear hp7 HOp
          go_wp2_with (fail)
          go_roundw
          case rel => exact ⟨j + 2, _, by go_num, by omega, Hok4.out, HP7.out⟩
          case measure => simp [intOf]; omega
        · have e8 : (kk == 8) = false := by simpa using h8
          clear h8
          go_wp2_with (fail)
          refine ((HP1.out.below (drewN_below w1 _)).got (nn - 1) b.length Ab cb o1 hbl).mono ?_
          rintro e w3 ⟨rfl, hp3, hk3⟩
          obtain ⟨ev, hev⟩ : ∃ ev, ev = gotE st (nn - 1) b.length := ⟨_, rfl⟩
          have hRg := hp3.rgot (nn - 1) b.length Ab cb o1 hbl
          rw [← hev] at hRg ⊢
          have HRg := Lib.hid hRg
          clear hp3 hk3 hev hRg
          go_wp2_with (fail)
          refine HRg.out.mono ?_
          rintro e w4 ⟨rfl, hp4, hk4⟩
          have hok4 := (Hok.out.got (nn - 1) b.length).up (M := ((j + 2 : Nat) : Int)) (by omega)
          have Hok4 := Lib.hid hok4
          have HOp := Lib.hid (hp4.opens hok4.1 hok4.2.1)
          clear hp4 hk4 HRg hok4 Hok
          go_wp2_with (fail)
          refine HOp.out.mono ?_
          rintro e w7 ⟨rfl, hp7⟩
          have HP7 := Lib.hid hp7
          clear hp7 HOp
          go_wp2_with (fail)
          go_roundw
          case rel => exact ⟨j + 2, _, by go_num, by omega, Hok4.out, HP7.out⟩
          case measure => simp [intOf]; omega
    · have HB := Lib.hid (show Below w.heap.size w wr by obtain ⟨_, _, _, _, h, _⟩ := HP.out; exact h)
      have hbel := lives37_any wr
      have HLv := Lib.hid hbel
      clear hbel Hok HP
      by_cases h1 : j + 1 < ls.length
      · have h2 : ¬ j < 80 := fun h => hgo ⟨h1, h⟩
        clear hgo
        go_wp2_with (fail)
        refine HLv.out.mono ?_
        rintro e w5 ⟨rfl, hb5⟩
        have Hb5 := Lib.hid (HB.out.trans (hb5.mono HB.out.size))
        clear hb5
        go_wp2_with (fail)
        go_ret
        exact ⟨rfl, Hb5.out⟩
      · clear hgo
        go_wp2_with (fail)
        refine HLv.out.mono ?_
        rintro e w5 ⟨rfl, hb5⟩
        have Hb5 := Lib.hid (HB.out.trans (hb5.mono HB.out.size))
        clear hb5
        go_wp2_with (fail)
        go_ret
        exact ⟨rfl, Hb5.out⟩
end Go.Proofs.Ytajdkcpcgfipbaa
