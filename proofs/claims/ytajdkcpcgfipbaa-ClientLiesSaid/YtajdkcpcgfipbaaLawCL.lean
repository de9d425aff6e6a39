/- ClientLies: the walk. -/
import Derived.Test.YtajdkcpcgfipbaaCliR
namespace Go.Proofs.Ytajdkcpcgfipbaa
open Go.RowKit Go.Wm

set_option maxRecDepth 100000 in
set_option maxHeartbeats 4000000 in
theorem lies_walk (id key : Int) (A2 : Option Addr) (c2 : Nat) (bs : List Int) (which y : Int) (hid : I64 id) (hky : 0 ≤ key ∧ key < 18446744073709551616) (hbs : Byt bs) (hc2 : bs.length ≤ c2) (hl2 : bs.length ≤ 9223372036854775807) (hwh : I64 which) (hy : I64 y) (w : World) (hr2 : Rd .u8 w A2 bs) :
    Calls Try.prog 3 #[.int .i64 id, .int .u64 key, .slice A2 bs.length c2, .int .i64 which, .int .i64 y] w fun e w' => e = .returned (.bool true) ∧ Below w.heap.size w w' := by
  have hidi := (i64_iff _).1 hid
  have HA := Lib.hid (Around_any id 1000 (by omega) (by omega) (by decide) (by decide) w)
  obtain ⟨q0, q1⟩ := aroundI_range id 1000 (by decide)
  obtain ⟨k0, hk0⟩ : ∃ k0, k0 = aroundI id 1000 := ⟨_, rfl⟩
  rw [← hk0] at HA q0 q1
  obtain ⟨k, hk⟩ : ∃ k, k = 1 + k0 := ⟨_, rfl⟩
  have hkw : IntKind.i64.wrap (1 + k0) = k := by rw [hk]; exact IntWalk.i64_in _ (by omega)
  have hk1 : 1 ≤ k := by omega
  have hk2 : k ≤ 1000 := by omega
  have hki : I64 k := (i64_iff _).2 (by omega)
  have Hki := Lib.hid hki
  have Hr2 := Lib.hid hr2
  have Hbs := Lib.hid hbs
  have Hwh := Lib.hid hwh
  have Hy := Lib.hid hy
  clear hk0 hk hid hr2 hbs hwh hy hki
  go_enter Try.func3, Try.ntmps3
  go_wp2_with (fail)
  refine HA.out.mono ?_
  rintro e W0 ⟨rfl, rfl⟩
  clear HA
  go_wp2_with (fail)
  refine (CNew_any w).mono ?_
  rintro e W1 ⟨rfl, hW1⟩
  have HW1 := Lib.hid hW1
  have hz1 : W1.heap.size = w.heap.size + 2 := by rw [hW1]; simp
  clear hW1 hkw q0 q1
  go_wp2_with (fail)
  refine (CCall_any k key W1).mono ?_
  rintro e W2 ⟨rfl, hW2⟩
  have hs2 : SCB w W2 (w.heap.size + 1) (fun _ => none) (w.heap.size + 2) ⟨k, key, 0, []⟩ 0 [] := by rw [hW2, HW1.out]; exact SCB.new w k key
  rw [hz1]
  obtain ⟨gs, hgs⟩ : ∃ gs, gs = w.heap.size + 1 := ⟨_, rfl⟩
  obtain ⟨gc, hgc⟩ : ∃ gc, gc = w.heap.size + 2 := ⟨_, rfl⟩
  rw [← hgs, ← hgc] at hs2 ⊢
  have Hs2 := Lib.hid hs2
  clear hW2 hs2 HW1 hz1 hgs hgc
  go_wp2_with (fail)
  refine (Hs2.out.join k key Hki.out hky (by decide)).mono ?_
  rintro e W3 ⟨rfl, hs3⟩
  have hj : joinE (fun _ => none) k = 0 := by simp [joinE]; omega
  obtain ⟨σ, hσ⟩ : ∃ σ, σ = joinS (fun _ => none) k key := ⟨_, rfl⟩
  have hσ2 : σ = fun x => if x = k then some ⟨key, 0, []⟩ else none := by rw [hσ]; funext x; simp [joinS, hj, updS]
  rw [← hσ] at hs3
  rw [hj]
  have Hs3 := Lib.hid hs3
  have Hσ := Lib.hid hσ2
  clear hs3 Hs2 hj hσ hσ2
  go_wp2_with (fail)
  refine (Few_any A2 c2 bs 8 hc2 hl2 (by decide) W3 (Hr2.out.below Hs3.out.bel (Nat.le_refl _))).mono ?_
  rintro e W4 ⟨⟨v4, rfl, ho4⟩, hb4⟩
  obtain ⟨b, hb⟩ : ∃ b, b = bs.take 8 := ⟨_, rfl⟩
  rw [← hb] at ho4
  have hb8 : b.length ≤ 8 := by rw [hb, List.length_take]; omega
  have hbb : Byt b := by rw [hb]; exact Hbs.out.take 8
  obtain ⟨A4, c4, rfl⟩ := own_slice' ho4
  have Hv4 := Lib.hid (show ByS W4 (.slice A4 b.length c4) b from ⟨_, ho4⟩)
  have Hs4 := Lib.hid (Hs3.out.below hb4)
  have Hbb := Lib.hid hbb
  clear ho4 hb4 hb Hs3 hbb
  go_wp2_with (fail)
  refine (Hs4.out.send b A4 c4 Hbb.out (by omega) (by simp) (by simp) Hv4.out.toR).mono ?_
  rintro e W50 ⟨A5, c5, rfl, hs5⟩
  obtain ⟨tg, htg⟩ : ∃ tg, tg = tagI key k 1 b := ⟨_, rfl⟩
  have hs5 : SCB w (W50.alloc (.cells #[.int .i64 k, .int .i64 1, .slice A5 b.length c5, .int .u64 (tagI key k 1 b)] 32)) gs σ gc ⟨k, key, 1, [⟨k, 1, b, tagI key k 1 b⟩]⟩ 1 ((W50.heap.size, ⟨k, 1, b, tagI key k 1 b⟩) :: []) := hs5
  rw [← htg] at hs5
  obtain ⟨r, hr⟩ : ∃ r : Rq, r = ⟨k, 1, b, tg⟩ := ⟨_, rfl⟩
  rw [← hr] at hs5
  obtain ⟨W5, hW5⟩ : ∃ W5, W5 = W50.alloc (.cells #[.int .i64 k, .int .i64 1, .slice A5 b.length c5, .int .u64 tg] 32) := ⟨_, rfl⟩
  obtain ⟨ba, hba⟩ : ∃ ba, ba = W50.heap.size := ⟨_, rfl⟩
  have hbx : W5.heap[ba]? = some (.cells #[.int .i64 k, .int .i64 1, .slice A5 b.length c5, .int .u64 tg] 32 (0, 0)) := by rw [hW5, hba]; exact heap_alloc_new W50 _
  rw [← hW5, ← hba] at hs5
  have hv5 : ByS W5 (.slice A5 b.length c5) b := by
    obtain ⟨q, _, h⟩ := hs5
    obtain ⟨⟨A, c, e1, e2⟩, _⟩ := h _ List.mem_cons_self
    rw [hr] at e1 e2
    rw [hbx] at e1
    cases e1
    exact e2
  have hcl5 : b.length ≤ c5 := by obtain ⟨_, _, e, _, h⟩ := hv5.rd; cases e; exact h
  have HW5 := Lib.hid hW5
  have Hba := Lib.hid hba
  have Hbx := Lib.hid hbx
  have Hs5 := Lib.hid hs5
  have Hv5 := Lib.hid hv5
  have Hr := Lib.hid hr
  have Htg := Lib.hid htg
  clear hW5 hba hbx hs5 hv5 hr htg Hs4 Hv4
  go_wp2_with (fail)
  rw [← Htg.out, ← HW5.out, ← Hba.out]
  refine (request37_any k 1 tg A5 b.length c5 W5).mono ?_
  rintro e W6 ⟨rfl, hb6⟩
  have Hb6 := Lib.hid hb6
  have hs6 := Hs5.out.below hb6
  have hv6 := Hv5.out.below hb6
  have Hs6 := Lib.hid hs6
  have HC := Lib.hid (show Calls Try.prog 22 #[.agg #[.int .i64 k, .int .i64 1, .slice A5 b.length c5, .int .u64 tg], .int .i64 which, .int .i64 y] W6 fun e w' =>
      (∃ A' c', e = .returned (.agg #[.int .i64 (chg r which y).c, .int .i64 (chg r which y).n, .slice A' (chg r which y).b.length c', .int .u64 (chg r which y).t]) ∧ ByS w' (.slice A' (chg r which y).b.length c') (chg r which y).b) ∧ Below W6.heap.size W6 w' by
    rw [Hr.out]
    exact Changed_any ⟨k, 1, b, tg⟩ which y A5 c5 Hwh.out Hy.out Hbb.out (by show b.length ≤ _; omega) hcl5 W6 hv6)
  clear hb6 hs6 hv6 HW5
  go_wp2_with (fail)
  refine HC.out.mono ?_
  rintro e W7 ⟨⟨A7, c7, rfl, hv7⟩, hb7⟩
  obtain ⟨x, hx⟩ : ∃ x, x = chg r which y := ⟨_, rfl⟩
  rw [← hx] at hv7 ⊢
  have Hx := Lib.hid hx
  have Hv7 := Lib.hid hv7
  have Hb7 := Lib.hid (Hb6.out.trans (hb7.mono Hb6.out.size))
  have Hs7 := Lib.hid (Hs6.out.below hb7)
  clear hx hv7 hb7 HC Hs6
  go_wp2_with (fail)
  refine (own37_any x.c x.n x.t A7 x.b.length c7 W7).mono ?_
  rintro e W80 ⟨rfl, hb8'⟩
  have hs8 := (Hs7.out.below hb8').var (r := x) rfl (Hv7.out.below hb8')
  obtain ⟨W8, hW8⟩ : ∃ W8, W8 = W80.alloc (.cells #[.int .i64 x.c, .int .i64 x.n, .slice A7 x.b.length c7, .int .u64 x.t] 32) := ⟨_, rfl⟩
  obtain ⟨bx, hbx⟩ : ∃ bx, bx = W80.heap.size := ⟨_, rfl⟩
  have hxx : W8.heap[bx]? = some (.cells #[.int .i64 x.c, .int .i64 x.n, .slice A7 x.b.length c7, .int .u64 x.t] 32 (0, 0)) := by rw [hW8, hbx]; exact heap_alloc_new W80 _
  have hb78 : Below W7.heap.size W7 W8 := by rw [hW8]; exact hb8'.alloc hb8'.size _
  rw [← hW8, ← hbx] at hs8
  have Hxv := Lib.hid (Hv7.out.below hb78)
  have Hb58 := Lib.hid (Hb7.out.trans (hb78.mono Hb7.out.size))
  have Hrx := Lib.hid ((Hb58.out.block ba (Array.getElem?_eq_some_iff.1 Hbx.out).1).trans Hbx.out)
  have Hrv := Lib.hid (Hv5.out.below Hb58.out)
  have HW8 := Lib.hid hW8
  have Hbx8 := Lib.hid hbx
  have Hxx := Lib.hid hxx
  have Hs8 := Lib.hid hs8
  clear hW8 hbx hxx hs8 hb78 hb8' Hs7 Hv7
  go_wp2_with (fail)
  rw [← HW8.out, ← Hbx8.out]
  clear HW8 Hbx8
  have hxl := (Array.getElem?_eq_some_iff.1 Hxx.out).1
  have hrl := (Array.getElem?_eq_some_iff.1 Hrx.out).1
  have HS : ∀ W', Below W8.heap.size W8 W' → Below W8.heap.size W8 W' ∧ W'.cell? ⟨bx, 0, none⟩ = some (.int .i64 x.c) ∧ W'.cell? ⟨bx, 1, none⟩ = some (.int .i64 x.n) ∧ W'.cell? ⟨bx, 2, none⟩ = some (.slice A7 x.b.length c7) ∧ W'.cell? ⟨bx, 3, none⟩ = some (.int .u64 x.t) ∧ W'.cell? ⟨ba, 0, none⟩ = some (.int .i64 k) ∧ W'.cell? ⟨ba, 1, none⟩ = some (.int .i64 1) ∧ W'.cell? ⟨ba, 2, none⟩ = some (.slice A5 b.length c5) ∧ W'.cell? ⟨ba, 3, none⟩ = some (.int .u64 tg) := fun W' hB => by
    have e1 := (hB.block bx hxl).trans Hxx.out
    have e2 := (hB.block ba hrl).trans Hrx.out
    exact ⟨hB, by simp [World.cell?, e1], by simp [World.cell?, e1], by simp [World.cell?, e1], by simp [World.cell?, e1], by simp [World.cell?, e2], by simp [World.cell?, e2], by simp [World.cell?, e2], by simp [World.cell?, e2]⟩
  have HS' := Lib.hid HS
  have hlb := chg_b r which y (by rw [Hr.out]; exact Hbb.out)
  rw [← Hx.out] at hlb
  have hxb : x.b.length ≤ 8 := by rw [hlb.2, Hr.out]; exact hb8
  have hxby := hlb.1
  have hxi := chg_i64 r which y (by rw [Hr.out]; exact Hki.out) (by rw [Hr.out]; exact (show I64 1 from (i64_iff _).2 (by omega)))
  rw [← Hx.out] at hxi
  have Hxi := Lib.hid hxi
  have Hxby := Lib.hid hxby
  have HRq := Lib.hid (show ∀ W', Below W8.heap.size W8 W' → ∀ (a b t : Int) (A : Option Addr) (l c : Nat), Calls Try.prog 23 #[.agg #[.int .i64 a, .int .i64 b, .slice A l c, .int .u64 t]] W' fun e w' => e = .returned (.agg #[.int .i64 a, .int .i64 b, .slice A l c, .int .u64 t]) ∧ Below W8.heap.size W8 w' from
    fun W' hB a b t A l c => (request37_any a b t A l c W').mono fun e w' ⟨he, h⟩ => ⟨he, hB.trans (h.mono hB.size)⟩)
  obtain ⟨sm, hsm⟩ : ∃ sm, sm = sameRq x r := ⟨_, rfl⟩
  have HSm := Lib.hid (show ∀ W', Below W8.heap.size W8 W' → Calls Try.prog 24 #[.agg #[.int .i64 x.c, .int .i64 x.n, .slice A7 x.b.length c7, .int .u64 x.t], .agg #[.int .i64 k, .int .i64 1, .slice A5 b.length c5, .int .u64 tg]] W' fun e w' => e = .returned (.bool sm) ∧ Below W8.heap.size W8 w' from
    fun W' hB => by
      rw [hsm, Hr.out]
      exact (Same37_any x ⟨k, 1, b, tg⟩ A7 A5 c7 c5 (by omega) W' (Hxv.out.toRd.below hB (Nat.le_refl _)) (Hrv.out.toRd.below hB (Nat.le_refl _))).mono fun e w' ⟨he, h⟩ => ⟨he, hB.trans (h.mono hB.size)⟩)
  have Hsm := Lib.hid hsm
  clear HS hlb hxi hxby hsm
  go_cut [17] (fun s17 wx => s17 = .bool sm ∧ Below W8.heap.size W8 wx)
  case first =>
    go_region_held3 (fun W' => Below W8.heap.size W8 W' ∧ W'.cell? ⟨bx, 0, none⟩ = some (.int .i64 x.c) ∧ W'.cell? ⟨bx, 1, none⟩ = some (.int .i64 x.n) ∧ W'.cell? ⟨bx, 2, none⟩ = some (.slice A7 x.b.length c7) ∧ W'.cell? ⟨bx, 3, none⟩ = some (.int .u64 x.t) ∧ W'.cell? ⟨ba, 0, none⟩ = some (.int .i64 k) ∧ W'.cell? ⟨ba, 1, none⟩ = some (.int .i64 1) ∧ W'.cell? ⟨ba, 2, none⟩ = some (.slice A5 b.length c5) ∧ W'.cell? ⟨ba, 3, none⟩ = some (.int .u64 tg)) (first | assumption | exact HS'.out _ (Below.refl _ _).drew | exact HS'.out _ (by assumption)) (first | (go_at_call 23; refine (HRq.out _ (And.left (by assumption)) _ _ _ _ _ _).mono ?_; rintro e wR ⟨rfl, hSR⟩) | (go_at_call 24; refine (HSm.out _ (And.left (by assumption))).mono ?_; rintro e wS ⟨rfl, hSS⟩))
    all_goals
      go_wp2_with (fail)
      go_meet
      exact ⟨rfl, hSS⟩
  case rest =>
    obtain ⟨rfl, hBc⟩ := hcut
    obtain ⟨hx, hhx⟩ : ∃ hx, hx = hashB bodyLbl x.b := ⟨_, rfl⟩
    have HBy := Lib.hid (show ∀ W', Below W8.heap.size W8 W' → Calls Try.prog 26 #[.string ⟨#[98, 111, 100, 121]⟩, .slice A7 x.b.length c7] W' fun e w' => e = .returned (.int .u64 hx) ∧ Below W8.heap.size W8 w' from
      fun W' hB => by
        have := Bytes_any ⟨#[98, 111, 100, 121]⟩ (by decide) A7 c7 x.b Hxby.out (by omega) W' (Hxv.out.toRd.below hB (Nat.le_refl _))
        rw [show strI ⟨#[98, 111, 100, 121]⟩ = bodyLbl by decide, ← hhx] at this
        exact this.mono fun e w' ⟨he, h⟩ => ⟨he, hB.trans (h.mono hB.size)⟩)
    obtain ⟨tx, htx⟩ : ∃ tx, tx = tagI key x.c x.n x.b := ⟨_, rfl⟩
    have HSu := Lib.hid (show ∀ W', Below W8.heap.size W8 W' → Calls Try.prog 25 #[.string ⟨#[116, 97, 103]⟩, .slice (some ⟨W'.heap.size, 0, none⟩) 4 4] (W'.alloc (.cells #[.int .i64 (wrap64 key), .int .i64 x.c, .int .i64 x.n, .int .i64 (wrap64 hx)] 3)) fun e w' => e = .returned (.int .u64 tx) ∧ Below W8.heap.size W8 w' from
      fun W' hB => by
        have HS := Sum_any ⟨#[116, 97, 103]⟩ (by decide) (some ⟨W'.heap.size, 0, none⟩) 4 [wrap64 key, x.c, x.n, wrap64 hx] (by simp) (W'.alloc (.cells #[.int .i64 (wrap64 key), .int .i64 x.c, .int .i64 x.n, .int .i64 (wrap64 hx)] 3)) (Rd.lit4 .i64 W' _ _ _ _ _)
        rw [show strI ⟨#[116, 97, 103]⟩ = tagLbl by decide] at HS
        simp only [List.length_cons, List.length_nil, Nat.zero_add, Nat.reduceAdd] at HS
        rw [show sumI tagLbl [wrap64 key, x.c, x.n, wrap64 hx] = tx by rw [htx, hhx]; rfl] at HS
        exact HS.mono fun e w' ⟨he, h⟩ => ⟨he, (hB.alloc hB.size _).trans (h.mono (by simp; exact Nat.le_succ_of_le hB.size))⟩)
    have ew1 : IntKind.i64.wrap key = wrap64 key := by simp only [IntKind.wrap_i64, wrap64]
    have ew2 : IntKind.i64.wrap hx = wrap64 hx := by simp only [IntKind.wrap_i64, wrap64]
    have HSu := Lib.hid (show ∀ W', Below W8.heap.size W8 W' → Calls Try.prog 25 #[.string ⟨#[116, 97, 103]⟩, .slice (some ⟨W'.heap.size, 0, none⟩) 4 4] (W'.alloc (.cells #[.int .i64 (IntKind.i64.wrap key), .int .i64 x.c, .int .i64 x.n, .int .i64 (IntKind.i64.wrap hx)] 3)) fun e w' => e = .returned (.int .u64 tx) ∧ Below W8.heap.size W8 w' by rw [ew1, ew2]; exact HSu.out)
    clear ew1 ew2
    obtain ⟨rt, hrt⟩ : ∃ rt, rt = (tx == x.t) := ⟨_, rfl⟩
    have Hrt := Lib.hid hrt
    have Htx := Lib.hid htx
    clear hhx htx
    have HBc := Lib.hid hBc
    obtain ⟨_, y0, y1, y2, y3, y4, y5, y6, y7⟩ := HS'.out wc hBc
    clear hBc
    go_wp2_with (fail)
    go_cut [18] (fun s18 wx => s18 = .bool rt ∧ Below W8.heap.size W8 wx)
    case first =>
      have hd : (tx == x.t) = rt := Hrt.out.symm
      clear hrt y0 y1 y2 y3 y4 y5 y6 y7
      go_region_held3 (fun W' => Below W8.heap.size W8 W' ∧ W'.cell? ⟨bx, 0, none⟩ = some (.int .i64 x.c) ∧ W'.cell? ⟨bx, 1, none⟩ = some (.int .i64 x.n) ∧ W'.cell? ⟨bx, 2, none⟩ = some (.slice A7 x.b.length c7) ∧ W'.cell? ⟨bx, 3, none⟩ = some (.int .u64 x.t) ∧ W'.cell? ⟨ba, 0, none⟩ = some (.int .i64 k) ∧ W'.cell? ⟨ba, 1, none⟩ = some (.int .i64 1) ∧ W'.cell? ⟨ba, 2, none⟩ = some (.slice A5 b.length c5) ∧ W'.cell? ⟨ba, 3, none⟩ = some (.int .u64 tg)) (first | assumption | exact HS'.out _ HBc.out | exact HS'.out _ HBc.out.drew | exact HS'.out _ (Below.alloc (by assumption) (Below.size (by assumption)) _) | exact HS'.out _ (by assumption)) (first | (go_at_call 26; refine (HBy.out _ (And.left (by assumption))).mono ?_; rintro e wR ⟨rfl, hSR⟩) | (go_at_call 25; refine (HSu.out _ (by assumption)).mono ?_; rintro e wS ⟨rfl, hSS⟩))
      all_goals
        go_wp2_with (fail)
        go_meet
        exact ⟨rfl, hSS⟩
    case rest =>
      obtain ⟨rfl, hBd⟩ := hcut
      have hs8d := Hs8.out.below hBd
      obtain ⟨σ2, hσ2⟩ : ∃ σ2, σ2 = accS σ x := ⟨_, rfl⟩
      cases hsm : sm with
      | true =>
        -- nothing was changed
        have e := (sameRq_iff x r).1 (by rw [← Hsm.out]; exact hsm)
        have hxr : x = r := by obtain ⟨e1, e2, e3, e4⟩ := e; cases x; cases r; simp_all
        have hacc : accR σ x = (true, [], 0) := by
          rw [hxr, Hr.out, Hσ.out, Htg.out]
          simp [accR, waitsS]; omega
        obtain ⟨A9, c9, ⟨y0, y1, y2, y3⟩, ha⟩ := hs8d.accept (rb := bx) (r := x) (by simp) Hxi.out.1 Hxi.out.2 Hxby.out (by omega)
        rw [hacc] at ha
        have Ha := Lib.hid ha
        clear ha hs8d e hxr hacc hσ2
        go_wp2_with (fail)
        refine Ha.out.mono ?_
        rintro e W9 ⟨⟨A9', c9', rfl, hv9⟩, hs9, hy9⟩
        have HB9 := Lib.hid hs9.bel
        have HL := Lib.hid (lives37_any W9)
        clear hv9 hs9 hy9 Ha y0 y1 y2 y3
        subst hsm
        go_wp2_with (fail)
        refine HL.out.mono ?_
        rintro e W10 ⟨rfl, hb10⟩
        have HB10 := Lib.hid (HB9.out.trans (hb10.mono HB9.out.size))
        clear hb10 HL
        go_wp2_with (fail)
        go_ret
        exact ⟨rfl, HB10.out⟩
      | false =>
        have hct := chg_tag key r which y (by rw [Hr.out]; exact Htg.out) (by rw [Hr.out]; exact Hki.out) (by rw [Hr.out]; exact (show I64 1 from (i64_iff _).2 (by omega))) (by rw [Hr.out]; exact Hbb.out) (by rw [← Hx.out, ← Hsm.out]; exact hsm)
        rw [← Hx.out] at hct
        obtain ⟨ee, hacc, hee⟩ := acc_wrong k key x hct
        rw [← Hσ.out] at hacc
        have hrtf : rt = false := by rw [Hrt.out, Htx.out]; simpa using hct
        have hσx : accS σ x = σ := by simp [accS, hacc]
        have heb : (ee == 0) = false := by simpa using hee
        obtain ⟨A9, c9, ⟨y0, y1, y2, y3⟩, ha⟩ := hs8d.accept (rb := bx) (r := x) (by simp) Hxi.out.1 Hxi.out.2 Hxby.out (by omega)
        rw [hacc, hσx] at ha
        have Ha := Lib.hid ha
        clear ha hs8d hct hacc hσ2 hσx hee hrt
        subst hrtf hsm
        go_wp2_with (fail)
        refine Ha.out.mono ?_
        rintro e W9 ⟨⟨A9', c9', rfl, hv9⟩, hs9, hy9⟩
        have hla := hs9.last k Hki.out
        rw [show lastI σ k = 0 by rw [Hσ.out]; simp [lastI]] at hla
        obtain ⟨A10, c10, ⟨z0, z1, z2, z3⟩, ha10⟩ := hs9.accept (rb := ba) (r := r) (by simp) (by rw [Hr.out]; exact Hki.out) (by rw [Hr.out]; exact (show I64 1 from (i64_iff _).2 (by omega))) (by rw [Hr.out]; exact Hbb.out) (by rw [Hr.out]; show b.length ≤ _; omega)
        have hacc2 : accR σ r = (true, [], 0) := by
          rw [Hr.out, Hσ.out, Htg.out]
          simp [accR, waitsS]; omega
        rw [hacc2] at ha10
        have Ha10 := Lib.hid ha10
        have Hla := Lib.hid hla
        clear hv9 hs9 hy9 Ha y0 y1 y2 y3 hla ha10 hacc2
        go_wp2_with (fail)
        refine Hla.out.mono ?_
        rintro e W9' ⟨rfl, rfl⟩
        go_wp2_with (fail)
        refine Ha10.out.mono ?_
        rintro e W10 ⟨⟨A10', c10', rfl, hv10⟩, hs10, hy10⟩
        have HB10 := Lib.hid hs10.bel
        have HL := Lib.hid (lives37_any W10)
        clear hv10 hs10 hy10 Ha10 z0 z1 z2 z3
        go_wp2_with (fail)
        refine HL.out.mono ?_
        rintro e W11 ⟨rfl, hb11⟩
        have HB11 := Lib.hid (HB10.out.trans (hb11.mono HB10.out.size))
        clear hb11 HL
        go_wp2_with (fail)
        go_ret
        exact ⟨rfl, HB11.out⟩
end Go.Proofs.Ytajdkcpcgfipbaa
