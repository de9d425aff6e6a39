/- Package client: Decode, the walk. -/
import Derived.Test.YtajdkcpcgfipbaaCliV
namespace Go.Proofs.Ytajdkcpcgfipbaa
open Go.RowKit Go.Wm

def decR (bs : List Int) : Rq := if decOk bs = true then (decX bs).1 else ⟨0, 0, [], 0⟩
def decE (bs : List Int) : Int := if decOk bs = true then 0 else 2
set_option maxRecDepth 100000 in
set_option maxHeartbeats 4000000 in
theorem Decode_any (bs : List Int) (A : Option Addr) (c : Nat) (hb : Byt bs) (hl : bs.length ≤ 1000000) (w : World) (hr : Rd .u8 w A bs) :
    Calls Try.prog 64 #[.slice A bs.length c] w fun e w' => (∃ A' c', e = .returned (.tuple #[.agg #[.int .i64 (decR bs).c, .int .i64 (decR bs).n, .slice A' (decR bs).b.length c', .int .u64 (decR bs).t], .int .i64 (decE bs)]) ∧ ByS w' (.slice A' (decR bs).b.length c') (decR bs).b) ∧ Below w.heap.size w w' := by
  obtain ⟨W0, hW0⟩ : ∃ W0, W0 = w.alloc (.cells #[.int .i64 0, .int .i64 0, .slice none 0 0, .int .u64 0] 32) := ⟨_, rfl⟩
  have hz0 : W0.heap.size = w.heap.size + 1 := by rw [hW0]; simp
  have hB0 : Below w.heap.size w W0 := by rw [hW0]; exact (Below.refl _ w).alloc (Nat.le_refl _) _
  have hx0 : W0.heap[w.heap.size]? = some (.cells #[.int .i64 0, .int .i64 0, .slice none 0 0, .int .u64 0] 32 (0, 0)) := by rw [hW0]; exact heap_alloc_new w _
  have Hr0 := Lib.hid (hr.below hB0 (Nat.le_refl _))
  have Hr := Lib.hid hr
  have HW0 := Lib.hid hW0
  have HB0 := Lib.hid hB0
  have Hx0 := Lib.hid hx0
  -- the readers' results
  obtain ⟨p1, hp1⟩ : ∃ p1, p1 = rIntE (bs, 0) := ⟨_, rfl⟩
  obtain ⟨p2, hp2⟩ : ∃ p2, p2 = rIntE p1.2 := ⟨_, rfl⟩
  obtain ⟨p3, hp3⟩ : ∃ p3, p3 = rRawE p2.2 := ⟨_, rfl⟩
  obtain ⟨p4, hp4⟩ : ∃ p4, p4 = rUE p3.2 := ⟨_, rfl⟩
  have hdx : decX bs = (⟨p1.1, p2.1, p3.1, p4.1⟩, p4.2) := by rw [hp4, hp3, hp2, hp1]; rfl
  have hwf := decX_wf hb
  rw [hdx] at hwf
  obtain ⟨wc, wn, wb, wl, wt, wz⟩ := hwf
  simp only at wc wn wb wl wt wz
  have b1 : Byt p1.2.1 ∧ p1.2.1.length ≤ bs.length := by rw [hp1]; exact rIntE_byt (s := (bs, 0)) hb
  have b2 : Byt p2.2.1 ∧ p2.2.1.length ≤ p1.2.1.length := by rw [hp2]; exact rIntE_byt b1.1
  have b3 := rRawE_byt b2.1
  rw [← hp3] at b3
  have HR1 : ∀ W g B, Rdr B W g bs 0 → Calls Try.prog 97 #[.pointer (some ⟨g, 0, none⟩)] W fun r w' => r = .returned (.int .i64 p1.1) ∧ Rdr B w' g p1.2.1 p1.2.2 ∧ Kp (fun k => k = g) W w' := fun W g B h => by
    rw [hp1]; exact IntR_any B g (bs, 0) hb (by simp only; omega) W h
  have HR2 : ∀ W g B, Rdr B W g p1.2.1 p1.2.2 → Calls Try.prog 97 #[.pointer (some ⟨g, 0, none⟩)] W fun r w' => r = .returned (.int .i64 p2.1) ∧ Rdr B w' g p2.2.1 p2.2.2 ∧ Kp (fun k => k = g) W w' := fun W g B h => by
    rw [hp2]; exact IntR_any B g p1.2 b1.1 (by omega) W h
  have HR3 : ∀ W g B, Rdr B W g p2.2.1 p2.2.2 → Calls Try.prog 52 #[.pointer (some ⟨g, 0, none⟩)] W fun r w' => (∃ A c, r = .returned (.slice A p3.1.length c) ∧ ByS w' (.slice A p3.1.length c) p3.1) ∧ Rdr W.heap.size w' g p3.2.1 p3.2.2 ∧ Kp (fun k => k = g) W w' := fun W g B h => by
    rw [hp3]; exact RawR_any B g p2.2 b2.1 (by omega) W h
  have HR4 : ∀ W g B, Rdr B W g p3.2.1 p3.2.2 → Calls Try.prog 53 #[.pointer (some ⟨g, 0, none⟩)] W fun r w' => r = .returned (.int .u64 p4.1) ∧ Rdr B w' g p4.2.1 p4.2.2 ∧ Kp (fun k => k = g) W w' := fun W g B h => by
    rw [hp4]; exact UintR_any B g p3.2 b3.1 (by have := b3.2.1; omega) W h
  have Hdx := Lib.hid hdx
  have HR1 := Lib.hid HR1
  have HR2 := Lib.hid HR2
  have HR3 := Lib.hid HR3
  have HR4 := Lib.hid HR4
  have Wc := Lib.hid wc
  have Wn := Lib.hid wn
  have Wb := Lib.hid wb
  have Wt := Lib.hid wt
  clear hr hW0 hB0 hx0 hp1 hp2 hp3 hp4 hdx b1 b2 b3 wc wn wb wt hb
  go_enter Try.func64, Try.ntmps64
  go_wp2_with (fail)
  rw [← HW0.out]
  refine (Read_any A c bs (by omega) W0 Hr0.out).mono ?_
  rintro e W1 ⟨⟨g, rfl, hg, hd1⟩, hb1⟩
  have Hd1 := Lib.hid hd1
  have HB1 := Lib.hid (HB0.out.trans (hb1.mono (by omega)))
  have Hx1 := Lib.hid ((hb1.block w.heap.size (by omega)).trans Hx0.out)
  have hgw : w.heap.size < g := by omega
  clear hd1 hb1 hg HB0 Hx0
  go_wp2_with (fail)
  refine (HR1.out W1 g _ Hd1.out).mono ?_
  rintro e W2 ⟨rfl, hd2, hk2⟩
  have Hd2 := Lib.hid hd2
  have Hk2 := Lib.hid hk2
  clear hd2 hk2
  go_wp2_with (fail)
  refine (HR2.out W2 g _ Hd2.out).mono ?_
  rintro e W3 ⟨rfl, hd3, hk3⟩
  have Hd3 := Lib.hid hd3
  have Hk3 := Lib.hid (Hk2.out.trans hk3 (fun _ _ e => e))
  clear hd3 hk3 Hk2 Hd2
  go_wp2_with (fail)
  refine (HR3.out W3 g _ Hd3.out).mono ?_
  rintro e W4 ⟨⟨A4, c4, rfl, hv4⟩, hd4, hk4⟩
  have Hd4 := Lib.hid hd4
  have Hv4 := Lib.hid hv4
  have Hk4 := Lib.hid (Hk3.out.trans hk4 (fun _ _ e => e))
  clear hd4 hk4 Hk3 Hd3 hv4
  go_wp2_with (fail)
  refine (HR4.out W4 g _ Hd4.out).mono ?_
  rintro e W5 ⟨rfl, hd5, hk5⟩
  have hv5 : ByS W5 (.slice A4 p3.1.length c4) p3.1 := Hv4.out.kp hk5 (fun j _ e => by
    subst e
    obtain ⟨_, _, h, _⟩ := Hd4.out
    exact nob_cells h (by decide))
  have hk5 := Hk4.out.trans hk5 (fun _ _ e => e)
  have hB5 : Below w.heap.size w W5 := HB1.out.trans (hk5.below HB1.out.size (fun k e => by subst e; omega))
  have hx5 : W5.heap[w.heap.size]? = some (.cells #[.int .i64 0, .int .i64 0, .slice none 0 0, .int .u64 0] 32 (0, 0)) := (hk5.block w.heap.size (Array.getElem?_eq_some_iff.1 Hx1.out).1 (by omega)).trans Hx1.out
  obtain ⟨W6, hW6⟩ : ∃ W6, W6 = W5.alloc (.cells #[.int .i64 p1.1, .int .i64 p2.1, .slice A4 p3.1.length c4, .int .u64 p4.1] 32) := ⟨_, rfl⟩
  have hB65 : Below W5.heap.size W5 W6 := by rw [hW6]; exact (Below.refl _ _).alloc (Nat.le_refl _) _
  have hx6 : W6.heap[W5.heap.size]? = some (.cells #[.int .i64 p1.1, .int .i64 p2.1, .slice A4 p3.1.length c4, .int .u64 p4.1] 32 (0, 0)) := by rw [hW6]; exact heap_alloc_new W5 _
  have hd6 : Rdr W6.heap.size W6 g p4.2.1 p4.2.2 := by
    obtain ⟨A', c', h1, h2, h3, _⟩ := hd5
    exact Rdr.make ((hB65.block g (Array.getElem?_eq_some_iff.1 h1).1).trans h1) (h2.below hB65 (Nat.le_refl _)) h3
  have Hv6 := Lib.hid (hv5.below hB65)
  have Hd6 := Lib.hid hd6
  have HB6 := Lib.hid (hB5.trans (hB65.mono hB5.size))
  have Hx6 := Lib.hid hx6
  obtain ⟨m, hm⟩ : ∃ m, m = W5.heap.size := ⟨_, rfl⟩
  have hml : w.heap.size < m := by rw [hm]; exact (Array.getElem?_eq_some_iff.1 hx5).1
  have Hy6 := Lib.hid ((hB65.block w.heap.size (by omega)).trans hx5)
  have c0 : W6.cell? ⟨m, 0, none⟩ = some (.int .i64 p1.1) := by rw [hm]; simp [World.cell?, hx6]
  have c1 : W6.cell? ⟨m, 1, none⟩ = some (.int .i64 p2.1) := by rw [hm]; simp [World.cell?, hx6]
  have c2 : W6.cell? ⟨m, 2, none⟩ = some (.slice A4 p3.1.length c4) := by rw [hm]; simp [World.cell?, hx6]
  have c3 : W6.cell? ⟨m, 3, none⟩ = some (.int .u64 p4.1) := by rw [hm]; simp [World.cell?, hx6]
  have HW6 := Lib.hid hW6
  rw [← hm] at hx6
  have Hx6 := Lib.hid hx6
  have Hm := Lib.hid hm
  clear hd5 hk5 hB5 hx5 hW6 hB65 hx6 hd6 hv5 hm Hd4 Hv4 Hk4 Hx1 HB1 HW0 Hr0 HR1 HR2 HR3 HR4 Hd1
  go_wp2_with (fail)
  rw [← HW6.out, ← Hm.out]
  obtain ⟨E, hE⟩ : ∃ E, E = (if p4.2.2 = 0 ∧ 0 < p4.2.1.length then 2 else p4.2.2) := ⟨_, rfl⟩
  have HE := EndR_any W6.heap.size g p4.2.1 p4.2.2 (by omega) W6 Hd6.out
  rw [← hE] at HE
  have hEe : endE (decX bs).2 = E := by rw [Hdx.out, hE]; rfl
  have HEe := Lib.hid hEe
  refine HE.mono ?_
  rintro e W7 ⟨rfl, rfl⟩
  clear hE HE hEe Hd6
  have zeroRet : ∀ W : World, Below w.heap.size w W → W.heap[w.heap.size]? = some (.cells #[.int .i64 0, .int .i64 0, .slice none 0 0, .int .u64 0] 32 (0, 0)) → decOk bs = false → True := fun _ _ _ _ => trivial
  clear zeroRet
  by_cases hE0 : E = 0
  · subst hE0
    by_cases hen : encB ⟨p1.1, p2.1, p3.1, p4.1⟩ = bs
    · have ht : decOk bs = true := by unfold decOk; rw [HEe.out, Hdx.out]; simp [hen]
      have HT := Lib.hid ht
      have HEn := Lib.hid (show decide (encB ⟨p1.1, p2.1, p3.1, p4.1⟩ = bs) = true from decide_eq_true hen)
      have hel := encB_length ⟨p1.1, p2.1, p3.1, p4.1⟩ Wc.out Wn.out Wt.out (by simp only; omega)
      simp only at hel
      clear hen ht
      go_wp2_with (fail)
      refine (Encode_any ⟨p1.1, p2.1, p3.1, p4.1⟩ A4 c4 Wc.out Wn.out Wt.out Wb.out (by simp only; omega) W6 Hv6.out.toRd).mono ?_
      rintro e W8 ⟨⟨v8, rfl, ho8⟩, hb8⟩
      obtain ⟨A8, c8, rfl⟩ := own_slice' ho8
      have Hr8 := Lib.hid (Rd.of_own ho8)
      have HB68 := Lib.hid hb8
      clear ho8 hb8
      go_wp2_with (fail)
      refine (Equal_any A8 A c8 c _ bs (by omega) W8 Hr8.out (Hr.out.below (HB6.out.trans (HB68.out.mono HB6.out.size)) (Nat.le_refl _))).mono ?_
      rintro e W9 ⟨rfl, n9, hn9⟩
      rw [HEn.out]
      have hb9 : Below W6.heap.size W6 W9 := by rw [hn9]; exact HB68.out.trans ((drewN_below W8 n9).mono HB68.out.size)
      have HB9 := Lib.hid hb9
      have d0 : W9.cell? ⟨m, 0, none⟩ = some (.int .i64 p1.1) := by rw [hb9.cell (Array.getElem?_eq_some_iff.1 Hx6.out).1]; exact c0
      have d1 : W9.cell? ⟨m, 1, none⟩ = some (.int .i64 p2.1) := by rw [hb9.cell (Array.getElem?_eq_some_iff.1 Hx6.out).1]; exact c1
      have d2 : W9.cell? ⟨m, 2, none⟩ = some (.slice A4 p3.1.length c4) := by rw [hb9.cell (Array.getElem?_eq_some_iff.1 Hx6.out).1]; exact c2
      have d3 : W9.cell? ⟨m, 3, none⟩ = some (.int .u64 p4.1) := by rw [hb9.cell (Array.getElem?_eq_some_iff.1 Hx6.out).1]; exact c3
      clear hn9 hb9 c0 c1 c2 c3
      have hy9 := (HB9.out.block w.heap.size (Array.getElem?_eq_some_iff.1 Hy6.out).1).trans Hy6.out
      have y0 : W9.cell? ⟨w.heap.size, 0, none⟩ = some (.int .i64 0) := by simp [World.cell?, hy9]
      have z0 : W9.frozen? ⟨w.heap.size, 0, none⟩ = false := by simp [World.frozen?, hy9]
      have y1 : W9.cell? ⟨w.heap.size, 1, none⟩ = some (.int .i64 0) := by simp [World.cell?, hy9]
      have z1 : W9.frozen? ⟨w.heap.size, 1, none⟩ = false := by simp [World.frozen?, hy9]
      have y2 : W9.cell? ⟨w.heap.size, 2, none⟩ = some (.slice none 0 0) := by simp [World.cell?, hy9]
      have z2 : W9.frozen? ⟨w.heap.size, 2, none⟩ = false := by simp [World.frozen?, hy9]
      have y3 : W9.cell? ⟨w.heap.size, 3, none⟩ = some (.int .u64 0) := by simp [World.cell?, hy9]
      have z3 : W9.frozen? ⟨w.heap.size, 3, none⟩ = false := by simp [World.frozen?, hy9]
      clear hy9
      go_wp2_with (fail)
      obtain ⟨Wf, hWf⟩ : ∃ Wf, Wf = (((W9.setCell ⟨w.heap.size, 0, none⟩ (.int .i64 p1.1)).setCell ⟨w.heap.size, 1, none⟩ (.int .i64 p2.1)).setCell ⟨w.heap.size, 2, none⟩ (.slice A4 p3.1.length c4)).setCell ⟨w.heap.size, 3, none⟩ (.int .u64 p4.1) := ⟨_, rfl⟩
      have hwf : Wf.heap[w.heap.size]? = some (.cells #[.int .i64 p1.1, .int .i64 p2.1, .slice A4 p3.1.length c4, .int .u64 p4.1] 32 (0, 0)) := by
        rw [hWf]
        exact heap_set4 ((HB9.out.block w.heap.size (Array.getElem?_eq_some_iff.1 Hy6.out).1).trans Hy6.out) _ _ _ _
      rw [← hWf]
      have f0 : Wf.cell? ⟨w.heap.size, 0, none⟩ = some (.int .i64 p1.1) := by simp [World.cell?, hwf]
      have f1 : Wf.cell? ⟨w.heap.size, 1, none⟩ = some (.int .i64 p2.1) := by simp [World.cell?, hwf]
      have f2 : Wf.cell? ⟨w.heap.size, 2, none⟩ = some (.slice A4 p3.1.length c4) := by simp [World.cell?, hwf]
      have f3 : Wf.cell? ⟨w.heap.size, 3, none⟩ = some (.int .u64 p4.1) := by simp [World.cell?, hwf]
      have hBf : Below w.heap.size w Wf := by rw [hWf]; exact below_set4 (HB6.out.trans (HB9.out.mono HB6.out.size)) (Nat.le_refl _)
      have hRR : decR bs = ⟨p1.1, p2.1, p3.1, p4.1⟩ := by rw [decR, if_pos HT.out, Hdx.out]
      have hEE : decE bs = 0 := by rw [decE, if_pos HT.out]
      rw [hRR, hEE]
      refine bodyPost_ret (v := .tuple #[.agg #[.int .i64 p1.1, .int .i64 p2.1, .slice A4 p3.1.length c4, .int .u64 p4.1], .int .i64 0]) (by simp [results, Try.results64, go_sem, f0, f1, f2, f3]) rfl ⟨⟨A4, c4, rfl, ?_⟩, hBf⟩
      rw [hWf]
      exact (Hv6.out.below HB9.out).set4 ((HB9.out.block w.heap.size (Array.getElem?_eq_some_iff.1 Hy6.out).1).trans Hy6.out) (by decide)
    · have ht : decOk bs = false := by unfold decOk; rw [HEe.out, Hdx.out]; simp [hen]
      have HT := Lib.hid ht
      have HEn := Lib.hid (show decide (encB ⟨p1.1, p2.1, p3.1, p4.1⟩ = bs) = false from decide_eq_false hen)
      have hel := encB_length ⟨p1.1, p2.1, p3.1, p4.1⟩ Wc.out Wn.out Wt.out (by simp only; omega)
      simp only at hel
      clear hen ht
      go_wp2_with (fail)
      refine (Encode_any ⟨p1.1, p2.1, p3.1, p4.1⟩ A4 c4 Wc.out Wn.out Wt.out Wb.out (by simp only; omega) W6 Hv6.out.toRd).mono ?_
      rintro e W8 ⟨⟨v8, rfl, ho8⟩, hb8⟩
      obtain ⟨A8, c8, rfl⟩ := own_slice' ho8
      have Hr8 := Lib.hid (Rd.of_own ho8)
      have HB68 := Lib.hid hb8
      clear ho8 hb8
      go_wp2_with (fail)
      refine (Equal_any A8 A c8 c _ bs (by omega) W8 Hr8.out (Hr.out.below (HB6.out.trans (HB68.out.mono HB6.out.size)) (Nat.le_refl _))).mono ?_
      rintro e W9 ⟨rfl, n9, hn9⟩
      rw [HEn.out]
      have hb9 : Below W6.heap.size W6 W9 := by rw [hn9]; exact HB68.out.trans ((drewN_below W8 n9).mono HB68.out.size)
      have HB9 := Lib.hid hb9
      clear hn9 hb9
      have hy9 := (HB9.out.block w.heap.size (Array.getElem?_eq_some_iff.1 Hy6.out).1).trans Hy6.out
      have y0 : W9.cell? ⟨w.heap.size, 0, none⟩ = some (.int .i64 0) := by simp [World.cell?, hy9]
      have z0 : W9.frozen? ⟨w.heap.size, 0, none⟩ = false := by simp [World.frozen?, hy9]
      have y1 : W9.cell? ⟨w.heap.size, 1, none⟩ = some (.int .i64 0) := by simp [World.cell?, hy9]
      have z1 : W9.frozen? ⟨w.heap.size, 1, none⟩ = false := by simp [World.frozen?, hy9]
      have y2 : W9.cell? ⟨w.heap.size, 2, none⟩ = some (.slice none 0 0) := by simp [World.cell?, hy9]
      have z2 : W9.frozen? ⟨w.heap.size, 2, none⟩ = false := by simp [World.frozen?, hy9]
      have y3 : W9.cell? ⟨w.heap.size, 3, none⟩ = some (.int .u64 0) := by simp [World.cell?, hy9]
      have z3 : W9.frozen? ⟨w.heap.size, 3, none⟩ = false := by simp [World.frozen?, hy9]
      clear hy9
      go_wp2_with (fail)
      obtain ⟨Wf, hWf⟩ : ∃ Wf, Wf = (((W9.setCell ⟨w.heap.size, 0, none⟩ (.int .i64 0)).setCell ⟨w.heap.size, 1, none⟩ (.int .i64 0)).setCell ⟨w.heap.size, 2, none⟩ (.slice none 0 0)).setCell ⟨w.heap.size, 3, none⟩ (.int .u64 0) := ⟨_, rfl⟩
      have hwf : Wf.heap[w.heap.size]? = some (.cells #[.int .i64 0, .int .i64 0, .slice none 0 0, .int .u64 0] 32 (0, 0)) := by
        rw [hWf]
        exact heap_set4 ((HB9.out.block w.heap.size (Array.getElem?_eq_some_iff.1 Hy6.out).1).trans Hy6.out) _ _ _ _
      rw [← hWf]
      have f0 : Wf.cell? ⟨w.heap.size, 0, none⟩ = some (.int .i64 0) := by simp [World.cell?, hwf]
      have f1 : Wf.cell? ⟨w.heap.size, 1, none⟩ = some (.int .i64 0) := by simp [World.cell?, hwf]
      have f2 : Wf.cell? ⟨w.heap.size, 2, none⟩ = some (.slice none 0 0) := by simp [World.cell?, hwf]
      have f3 : Wf.cell? ⟨w.heap.size, 3, none⟩ = some (.int .u64 0) := by simp [World.cell?, hwf]
      have hBf : Below w.heap.size w Wf := by rw [hWf]; exact below_set4 (HB6.out.trans (HB9.out.mono HB6.out.size)) (Nat.le_refl _)
      have hRR : decR bs = ⟨0, 0, [], 0⟩ := by rw [decR, if_neg (by rw [HT.out]; decide)]
      have hEE : decE bs = 2 := by rw [decE, if_neg (by rw [HT.out]; decide)]
      rw [hRR, hEE]
      exact bodyPost_ret (v := .tuple #[.agg #[.int .i64 0, .int .i64 0, .slice none 0 0, .int .u64 0], .int .i64 2]) (by simp [results, Try.results64, go_sem, f0, f1, f2, f3]) rfl ⟨⟨none, 0, rfl, ByS.nil _⟩, hBf⟩
  · have ht : decOk bs = false := by unfold decOk; rw [HEe.out]; simp [hE0]
    have HT := Lib.hid ht
    have hd : (E != 0) = true := by simp [hE0]
    clear hE0 ht
    have hy9 := Hy6.out
    have y0 : W6.cell? ⟨w.heap.size, 0, none⟩ = some (.int .i64 0) := by simp [World.cell?, hy9]
    have z0 : W6.frozen? ⟨w.heap.size, 0, none⟩ = false := by simp [World.frozen?, hy9]
    have y1 : W6.cell? ⟨w.heap.size, 1, none⟩ = some (.int .i64 0) := by simp [World.cell?, hy9]
    have z1 : W6.frozen? ⟨w.heap.size, 1, none⟩ = false := by simp [World.frozen?, hy9]
    have y2 : W6.cell? ⟨w.heap.size, 2, none⟩ = some (.slice none 0 0) := by simp [World.cell?, hy9]
    have z2 : W6.frozen? ⟨w.heap.size, 2, none⟩ = false := by simp [World.frozen?, hy9]
    have y3 : W6.cell? ⟨w.heap.size, 3, none⟩ = some (.int .u64 0) := by simp [World.cell?, hy9]
    have z3 : W6.frozen? ⟨w.heap.size, 3, none⟩ = false := by simp [World.frozen?, hy9]
    clear hy9
    go_wp2_with (fail)
    obtain ⟨Wf, hWf⟩ : ∃ Wf, Wf = (((W6.setCell ⟨w.heap.size, 0, none⟩ (.int .i64 0)).setCell ⟨w.heap.size, 1, none⟩ (.int .i64 0)).setCell ⟨w.heap.size, 2, none⟩ (.slice none 0 0)).setCell ⟨w.heap.size, 3, none⟩ (.int .u64 0) := ⟨_, rfl⟩
    have hwf : Wf.heap[w.heap.size]? = some (.cells #[.int .i64 0, .int .i64 0, .slice none 0 0, .int .u64 0] 32 (0, 0)) := by
      rw [hWf]
      exact heap_set4 Hy6.out _ _ _ _
    rw [← hWf]
    have f0 : Wf.cell? ⟨w.heap.size, 0, none⟩ = some (.int .i64 0) := by simp [World.cell?, hwf]
    have f1 : Wf.cell? ⟨w.heap.size, 1, none⟩ = some (.int .i64 0) := by simp [World.cell?, hwf]
    have f2 : Wf.cell? ⟨w.heap.size, 2, none⟩ = some (.slice none 0 0) := by simp [World.cell?, hwf]
    have f3 : Wf.cell? ⟨w.heap.size, 3, none⟩ = some (.int .u64 0) := by simp [World.cell?, hwf]
    have hBf : Below w.heap.size w Wf := by rw [hWf]; exact below_set4 (HB6.out) (Nat.le_refl _)
    have hRR : decR bs = ⟨0, 0, [], 0⟩ := by rw [decR, if_neg (by rw [HT.out]; decide)]
    have hEE : decE bs = 2 := by rw [decE, if_neg (by rw [HT.out]; decide)]
    rw [hRR, hEE]
    exact bodyPost_ret (v := .tuple #[.agg #[.int .i64 0, .int .i64 0, .slice none 0 0, .int .u64 0], .int .i64 2]) (by simp [results, Try.results64, go_sem, f0, f1, f2, f3]) rfl ⟨⟨none, 0, rfl, ByS.nil _⟩, hBf⟩
end Go.Proofs.Ytajdkcpcgfipbaa
