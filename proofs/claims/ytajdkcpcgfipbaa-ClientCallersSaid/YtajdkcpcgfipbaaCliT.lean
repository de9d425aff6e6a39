/- Package client: the reference's Encode; slices.Equal. -/
import Derived.Test.YtajdkcpcgfipbaaCliS
namespace Go.Proofs.Ytajdkcpcgfipbaa
open Go.RowKit Go.Wm

theorem Rd.of_arr {k : IntKind} {w : World} {e n c : Nat} {A : Option Addr} {xs : List Int} (h : Arr w e 1 A n c (xs.map (Value.int k))) : Rd k w A xs := by
  rcases h.cells with ⟨_, _, _, e⟩ | ⟨g, off, rfl, hg, hc⟩
  · exact .inl (by simpa using e)
  · exact .inr ⟨g, off, rfl, hg, fun j hj => (hc j (.int k (xs[j]?.getD 0)) (by rw [List.getElem?_map, List.getElem?_eq_getElem hj]; rfl)).1⟩
theorem Rd.some {k : IntKind} {w : World} {A : Option Addr} {xs : List Int} (h : Rd k w A xs) (hx : xs ≠ []) : ∃ a, A = some a := by
  rcases h with h | ⟨b, off, h, _⟩
  · exact absurd h hx
  · exact ⟨_, h⟩
theorem Arr.news {w : World} {e n c : Nat} {ad : Addr} {cs : List Value} (h : Arr w e 1 (some ad) n c cs) : ∀ j u, cs[j]? = some u → w.cell? (ad.add j) = some u := by
  intro j u hu
  obtain ⟨g, off, e1, h2, _⟩ := h.cell hu
  cases e1
  rw [add_ofs]; exact h2
theorem Arr.bel {w w' : World} {e size n c : Nat} {A : Option Addr} {cs : List Value} (h : Arr w e size A n c cs) (k : Below w.heap.size w w') : Arr w' e size A n c cs := h.kp (Kp.of_below (S := fun _ => False) k) (fun _ _ e => e)
theorem ge_of {g1 o1 g n m : Nat} (hg : (∃ a0, (Option.some (⟨g1, o1, none⟩ : Addr)) = Option.some a0 ∧ g = a0.block) ∨ g = n) (h1 : m ≤ g1) (h2 : m ≤ n) : m ≤ g := by
  rcases hg with ⟨a0, ea, e⟩ | e
  · cases ea; rw [e]; exact h1
  · rw [e]; exact h2
theorem varN_ne (n : Nat) : varN n ≠ [] := by
  by_cases h : n < 128
  · rw [varN_small h]; simp
  · rw [varN_big h]; simp
set_option maxRecDepth 100000 in
set_option maxHeartbeats 4000000 in
theorem REncode_any (r : Rq) (A : Option Addr) (cb : Nat) (hc : I64 r.c) (hn : I64 r.n) (ht : 0 ≤ r.t ∧ r.t < 18446744073709551616) (hl : r.b.length ≤ 1099511627776) (w : World) (hr : Rd .u8 w A r.b) :
    Calls Try.prog 63 #[.agg #[.int .i64 r.c, .int .i64 r.n, .slice A r.b.length cb, .int .u64 r.t]] w fun e w' => (∃ A' c', e = .returned (.slice A' (encB r).length c') ∧ Rd .u8 w' A' (encB r)) ∧ Below w.heap.size w w' := by
  have Hr := Lib.hid hr
  obtain ⟨i0, hi, hz0, hz1, hz2⟩ := info_parts info_u8
  have hci := (i64_iff _).1 hc
  have hni := (i64_iff _).1 hn
  have il1 := intW_length r.c hci.1 hci.2
  have il2 := intW_length r.n hni.1 hni.2
  have rl := rawW_length r.b (by omega)
  obtain ⟨tn, htn⟩ : ∃ tn : Nat, r.t = tn := ⟨r.t.toNat, (Int.toNat_of_nonneg ht.1).symm⟩
  have hte : r.t.toNat = tn := by omega
  have Htn := Lib.hid htn
  have Hte := Lib.hid hte
  have vl := varN_length tn (by omega)
  have htl : tn < 18446744073709551616 := by omega
  clear hr htn hte
  go_enter Try.func63, Try.ntmps63
  go_wp2_with (fail)
  obtain ⟨W0, hW0⟩ : ∃ W0, W0 = w.alloc (.cells #[.int .i64 r.c, .int .i64 r.n, .slice A r.b.length cb, .int .u64 r.t] 37) := ⟨_, rfl⟩
  rw [← hW0]
  have hx : W0.heap[w.heap.size]? = some (.cells #[.int .i64 r.c, .int .i64 r.n, .slice A r.b.length cb, .int .u64 r.t] 37 (0, 0)) := by rw [hW0]; exact heap_alloc_new w _
  have HB0 := Lib.hid (show Below w.heap.size w W0 by rw [hW0]; exact (Below.refl _ w).alloc (Nat.le_refl _) _)
  have hz : W0.heap.size = w.heap.size + 1 := by rw [hW0]; simp
  have x0 : W0.cell? ⟨w.heap.size, 0, none⟩ = some (.int .i64 r.c) := by simp [World.cell?, hx]
  have x1 : W0.cell? ⟨w.heap.size, 1, none⟩ = some (.int .i64 r.n) := by simp [World.cell?, hx]
  have Hx := Lib.hid hx
  have hRI : ∀ W', Below W0.heap.size W0 W' → ∀ n, I64 n → Calls Try.prog 96 #[.int .i64 n] W' fun e w' => (∃ ad c', e = .returned (.slice (some ad) (intW n).length c') ∧ Arr w' 5 1 (some ad) (intW n).length c' ((intW n).map (.int .u8)) ∧ W'.heap.size ≤ ad.block) ∧ Below W'.heap.size W' w' ∧ Below W0.heap.size W0 w' := fun W' hB n hn => by
    have h1 := (i64_iff _).1 hn
    refine (RInt_any n h1.1 h1.2 W').mono ?_
    rintro e w' ⟨⟨v, he, ho⟩, hb⟩
    obtain ⟨A', c', rfl⟩ := own_slice' ho
    obtain ⟨ad, rfl⟩ := Rd.some (Rd.of_own ho) (varN_ne _)
    exact ⟨⟨ad, c', he, Arr.of_own ho, (ho.lt ad.block rfl).1⟩, hb, hB.trans (hb.mono hB.size)⟩
  have HRI := Lib.hid hRI
  have HS : ∀ W', Below W0.heap.size W0 W' → Below W0.heap.size W0 W' ∧ W'.cell? ⟨w.heap.size, 0, none⟩ = some (.int .i64 r.c) ∧ W'.cell? ⟨w.heap.size, 1, none⟩ = some (.int .i64 r.n) := fun W' hB =>
    ⟨hB, (hB.cell (p := ⟨w.heap.size, 0, none⟩) (by show w.heap.size < _; omega)).trans x0, (hB.cell (p := ⟨w.heap.size, 1, none⟩) (by show w.heap.size < _; omega)).trans x1⟩
  have HS' := Lib.hid HS
  clear hW0 hx hRI HS
  go_cut [3] (fun s3 wx => ∃ g' off' c', s3 = .slice (some ⟨g', off', none⟩) ((intW r.c).length + (intW r.n).length) c' ∧ Arr wx 5 1 (some ⟨g', off', none⟩) ((intW r.c).length + (intW r.n).length) c' ((intW r.c).map (.int .u8) ++ (intW r.n).map (.int .u8)) ∧ W0.heap.size ≤ g' ∧ Below W0.heap.size W0 wx)
  case first =>
    go_region_law (first
      | (go_simp; go_at_call 96; refine (HRI.out _ (by first | assumption | exact (Below.refl _ _).drew) _ (by assumption)).mono ?_; rintro e wI ⟨⟨ad, cI, rfl, haI, hgI⟩, hbI, hSI⟩; have bI := bcell hbI)
      | (refine step_append_arr rfl _ _ 23 rfl 5 i0 (.int .u8 0) 1 1 Try.underlying23 hi hz0 hz1 hz2 rfl (by decide) _ _ _ _ rfl (show Arr _ 5 1 (some _) (intW r.c).length _ ((intW r.c).map (.int .u8)) by first | assumption | exact Arr.bel (by assumption) (by assumption)) _ _ _ _ rfl (by simp) (Arr.news (show Arr _ 5 1 (some _) (intW r.n).length _ ((intW r.n).map (.int .u8)) by first | assumption | exact Arr.bel (by assumption) (by assumption))) (ones _ _) (by unfold maxLen; omega) (by omega) (List.length_pos_iff.2 (varN_ne _)) ?_; intro g8 o8 c8 W8 har hkp hg8))
    all_goals
      go_wp2_with (fail)
      go_meet
      have hg8' : W0.heap.size ≤ g8 := by
        rcases hg8 with ⟨a0, ea, e⟩ | e
        · cases ea
          rw [e]
          first
            | exact Nat.le_trans (Below.size (by assumption)) (by assumption)
            | (simp at *; omega)
        · rw [e]; exact hSI.size
      exact ⟨g8, o8, c8, rfl, har, hg8', hSI.trans (hkp.below hSI.size (fun k e => by rw [e]; exact hg8'))⟩
  case rest =>
    obtain ⟨g1, o1, c1, rfl, ha1, hg1, hB1⟩ := hcut
    have hx1 := (hB1.block w.heap.size (by omega)).trans Hx.out
    have y2 : wc.cell? ⟨w.heap.size, 2, none⟩ = some (.slice A r.b.length cb) := by simp [World.cell?, hx1]
    have Ha1 := Lib.hid ha1
    have HB1 := Lib.hid hB1
    clear ha1 hB1 hx1 x0 x1 HRI HS'
    obtain ⟨n1, hn1⟩ : ∃ n1, n1 = (intW r.c).length + (intW r.n).length := ⟨_, rfl⟩
    rw [← hn1] at Ha1 ⊢
    have Hn1 := Lib.hid hn1
    have hn1b : n1 ≤ 20 := by omega
    clear hn1
    go_wp2_with (fail)
    refine (RRaw_any A cb r.b (by omega) wc (Hr.out.below (HB0.out.trans (HB1.out.mono (by omega))) (Nat.le_refl _))).mono ?_
    rintro e W2 ⟨⟨v2, rfl, ho2⟩, hb2⟩
    obtain ⟨A2, c2, rfl⟩ := own_slice' ho2
    obtain ⟨ad2, rfl⟩ := Rd.some (Rd.of_own ho2) (show rawW r.b ≠ [] from fun e => varN_ne _ (List.append_eq_nil_iff.1 e).1)
    obtain ⟨m2, hm2⟩ : ∃ m2, m2 = (rawW r.b).length := ⟨_, rfl⟩
    have hm20 : 0 < m2 := by rw [hm2]; exact List.length_pos_iff.2 (fun e => varN_ne _ (List.append_eq_nil_iff.1 e).1)
    have Ha2 := Lib.hid (Arr.of_own ho2)
    have Ha12 := Lib.hid (Arr.bel Ha1.out hb2)
    have HB2 := Lib.hid (HB1.out.trans (hb2.mono HB1.out.size))
    rw [← hm2] at Ha2 ⊢
    have Hm2 := Lib.hid hm2
    have hm2b : m2 ≤ 1099511627786 := by omega
    clear ho2 hb2 hm2 y2
    go_wp2_with (at_builtin; refine wpList_append_arr rfl _ _ 23 rfl 5 i0 (.int .u8 0) 1 1 Try.underlying23 hi hz0 hz1 hz2 rfl (by decide) _ _ _ _ rfl Ha12.out ad2 m2 c2 ((rawW r.b).map (.int .u8)) rfl (by rw [List.length_map, Hm2.out]; simp) (Arr.news Ha2.out) (ones _ _) (by unfold maxLen; omega) (by omega) hm20 ?_; intro g3 o3 c3 W3 har3 hkp3 hg3; have Har3 := Lib.hid har3; have Hkp3 := Lib.hid hkp3; have hg3' := ge_of hg3 hg1 HB2.out.size; have hB3 := HB2.out.trans (hkp3.below HB2.out.size (fun k e => (by rw [e]; exact hg3'))); have y3 : W3.cell? ⟨w.heap.size, 3, none⟩ = some (.int .u64 (tn : Int)) := (by rw [← Htn.out]; simp [World.cell?, (hB3.block w.heap.size (by omega)).trans Hx.out]); have HB3 := Lib.hid hB3; clear har3 hkp3 hg3 hB3)
    clear Ha1 Ha2 Ha12
    obtain ⟨n3, hn3⟩ : ∃ n3, n3 = n1 + m2 := ⟨_, rfl⟩
    rw [← hn3] at Har3 ⊢
    have Hn3 := Lib.hid hn3
    have hn3b : n3 ≤ 1099511627806 := by omega
    clear hn3
    go_wp2_with (fail)
    refine (RUint_any tn htl W3).mono ?_
    rintro e W4 ⟨⟨v4, rfl, ho4⟩, hb4⟩
    obtain ⟨A4, c4, rfl⟩ := own_slice' ho4
    obtain ⟨ad4, rfl⟩ := Rd.some (Rd.of_own ho4) (varN_ne _)
    obtain ⟨m4, hm4⟩ : ∃ m4, m4 = (varN tn).length := ⟨_, rfl⟩
    have hm40 : 0 < m4 := by rw [hm4]; exact List.length_pos_iff.2 (varN_ne _)
    have Ha4 := Lib.hid (Arr.of_own ho4)
    have Ha34 := Lib.hid (Arr.bel Har3.out hb4)
    have HB4 := Lib.hid (HB3.out.trans (hb4.mono HB3.out.size))
    rw [← hm4] at Ha4 ⊢
    have Hm4 := Lib.hid hm4
    have hm4b : m4 ≤ 10 := by omega
    clear ho4 hb4 hm4 y3
    go_wp2_with (at_builtin; refine wpList_append_arr rfl _ _ 23 rfl 5 i0 (.int .u8 0) 1 1 Try.underlying23 hi hz0 hz1 hz2 rfl (by decide) _ _ _ _ rfl Ha34.out ad4 m4 c4 ((varN tn).map (.int .u8)) rfl (by rw [List.length_map, Hm4.out]; simp) (Arr.news Ha4.out) (ones _ _) (by unfold maxLen; omega) (by omega) hm40 ?_; intro g5 o5 c5 W5 har5 hkp5 hg5; have Har5 := Lib.hid har5; have Hkp5 := Lib.hid hkp5; have Hg5 := Lib.hid hg5; clear har5 hkp5 hg5)
    have hg5 : W0.heap.size ≤ g5 := by
      rcases Hg5.out with ⟨a0, ea, e⟩ | e
      · cases ea; rw [e]; exact hg3'
      · rw [e]; exact HB4.out.size
    have hB5 : Below W0.heap.size W0 W5 := HB4.out.trans (Hkp5.out.below HB4.out.size (fun k e => by rw [e]; exact hg5))
    have ee : (intW r.c).map (Value.int .u8) ++ (intW r.n).map (Value.int .u8) ++ (rawW r.b).map (Value.int .u8) ++ (varN tn).map (Value.int .u8) = (encB r).map (Value.int .u8) := by rw [encB, Hte.out]; simp
    have el : n3 + m4 = (encB r).length := by rw [encB, Hte.out, Hn3.out, Hn1.out, Hm2.out, Hm4.out]; simp [Nat.add_assoc]
    have hR := Har5.out
    rw [ee] at hR
    have HR := Lib.hid (Rd.of_arr hR)
    have HBf := Lib.hid (HB0.out.trans (hB5.mono (by omega)))
    have El := Lib.hid el
    clear hR hB5 ee el
    go_ret
    exact ⟨⟨some ⟨g5, o5, none⟩, c5, by rw [← El.out]; rfl, HR.out⟩, HBf.out⟩
end Go.Proofs.Ytajdkcpcgfipbaa
