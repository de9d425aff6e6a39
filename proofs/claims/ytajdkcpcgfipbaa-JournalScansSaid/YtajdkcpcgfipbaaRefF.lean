/- The reference model's first and Scan read the records that the program reads. -/
import Derived.Test.YtajdkcpcgfipbaaRefE
namespace Go.Proofs.Ytajdkcpcgfipbaa
open Go.RowKit Go.Wm
attribute [local go_sem] min_int max_int

theorem rRaw_len (xs : List Int) : (rRaw xs).1.length + (rRaw xs).2.1.length ≤ xs.length := by
  have h := rrLen_raw xs
  have hl := rrLen_le xs
  by_cases he : (rrLen xs).2.2 = 0
  · obtain ⟨e, _⟩ := h.1 he
    rw [e]; simp; omega
  · have := h.2 he
    unfold rRaw at this ⊢
    rcases hq : rU 0 0 xs with ⟨n, r, e⟩
    have hs := (rU_suffix hq).length_le
    rw [hq] at this
    by_cases he : e = 0
    · subst he
      by_cases hl : r.length < n
      · simp [hl]; omega
      · simp [hl] at this
    · simp [he]; omega

theorem rrU_suffix (xs : List Int) : (rrU xs).2.1 <:+ xs := by
  unfold rrU
  split
  · exact rU_suffix (k := 0) (acc := 0) (xs := xs) rfl
  · exact List.suffix_refl _
set_option maxRecDepth 100000 in
set_option maxHeartbeats 2000000 in
theorem RFirst_any (n : Int) (h1 : -9223372036854775808 ≤ n) (h2 : n ≤ 9223372036854775807) (A : Option Addr) (c : Nat) (xs : List Int) (hx : Byt xs) (hc : xs.length ≤ c) (hl : xs.length ≤ 1099511627776) (w : World) (hr : Rd .u8 w A xs) :
    Calls Try.prog 87 #[.int .i64 n, .slice A xs.length c] w fun e w' =>
      ((hitB n xs ∧ ∃ A' c', e = .returned (.tuple #[.slice A' (recordB xs).length c', .bool true]) ∧ Rd .u8 w' A' (recordB xs) ∧ (recordB xs).length ≤ c' ∧ (recordB xs = [] ∨ ∀ a, A' = some a → ∃ a0, A = some a0 ∧ a.block = a0.block)) ∨
       (¬ hitB n xs ∧ e = .returned (.tuple #[.slice none 0 0, .bool false]))) ∧ Below w.heap.size w w' := by
  have Hhit := Lib.hid (hit_reads n xs h1 h2 (by omega))
  have hrl := rRaw_len xs
  obtain ⟨P, hP⟩ : ∃ P : Nat → Prop, P = fun k => ∃ a0, A = some a0 ∧ k = a0.block := ⟨_, rfl⟩
  have hR0 : RRdr P (w.alloc (.cells #[.slice A xs.length c, .int .i64 0] 174)) w.heap.size xs 0 := by
    refine ⟨A, c, heap_alloc_new w _, hr.below ((Below.refl _ w).alloc (Nat.le_refl _) _) (Nat.le_refl _), hc, ?_⟩
    rcases hr with h | ⟨b, off, rfl, hb, _⟩
    · exact .inl h
    · exact .inr (fun a ea => by cases ea; rw [hP]; exact ⟨_, rfl, rfl⟩)
  have HP := Lib.hid hP
  have HR := Lib.hid (RRawR_ok P w.heap.size xs hx (by omega) _ hR0)
  have HR0 := Lib.hid hR0
  have Hx := Lib.hid hx
  have Hr := Lib.hid hr
  clear hR0 hx hr hP
  go_enter Try.func87, Try.ntmps87
  go_wp2_with (fail)
  refine HR.out.mono ?_
  rintro e w1 ⟨h, hk⟩
  have Hk := Lib.hid (hk.below (by simp) (fun k e => by omega) |> fun b : Below w.heap.size _ w1 => ((Below.refl w.heap.size w).alloc (Nat.le_refl _) _).trans b)
  clear hk HR
  rcases h with ⟨hbad, ys, e, he, rfl, hr1⟩ | ⟨hgood, hr1, A1, c1, rfl, hrd, hc1, hd⟩
  · have hR2 : RRdr P (w1.alloc (.cells #[.slice none ([] : List Int).length 0, .int .i64 0] 174)) w1.heap.size [] 0 :=
      ⟨none, 0, heap_alloc_new w1 _, .inl rfl, Nat.le_refl _, .inl rfl⟩
    have HI := Lib.hid (RIntR_ok P w1.heap.size [] Byt.nil (by decide) _ hR2)
    have Hr1 := Lib.hid hr1
    have hno : ¬ hitB n xs := fun h => hbad (Hhit.out h).1
    have Hno := Lib.hid hno
    have hb2 : (e != 0) = true := by simpa using he
    have hg1 := hr1.lt
    clear hR2 hr1 hno hbad he
    go_wp2_with (fail)
    refine HI.out.mono ?_
    rintro e2 w2 ⟨⟨v2, rfl⟩, hr2, hk2⟩
    have hB2 : Below w1.heap.size w1 w2 := ((Below.refl _ w1).alloc (Nat.le_refl _) _).trans (hk2.below (by simp) (fun k e => by omega))
    have HE := Lib.hid (RRawR_err P w1.heap.size _ _ (by decide) w2 hr2)
    have hr1 := Hr1.out.below hB2
    obtain ⟨hc1, _, _⟩ := hr1.cells
    have Hk2 := Lib.hid (Hk.out.trans (hB2.mono Hk.out.size))
    clear hr2 hk2 hB2 hr1 HI Hr1 Hk
    go_wp2_with (fail)
    refine HE.out.mono ?_
    rintro e2 w3 ⟨rfl, rfl⟩
    clear HE
    go_wp2_with (fail)
    go_ret2
    exact ⟨.inr ⟨Hno.out, rfl⟩, Hk2.out⟩
  · obtain ⟨C, hC⟩ : ∃ C, C = (rRaw xs).1 := ⟨_, rfl⟩
    rw [← hC] at hrd hc1 hd hrl ⊢
    have hCb : Byt C := by rw [hC]; exact rRaw_byt Hx.out
    have HC := Lib.hid hC
    have hr0 : RRdr P (w1.alloc (.cells #[.slice A1 C.length c1, .int .i64 0] 174)) w1.heap.size C 0 :=
      ⟨A1, c1, heap_alloc_new w1 _, hrd.below ((Below.refl _ w1).alloc (Nat.le_refl _) _) (Nat.le_refl _), hc1, hd⟩
    have HI := Lib.hid (RIntR_ok P w1.heap.size C hCb (by omega) _ hr0)
    have Hr1 := Lib.hid hr1
    have HCb := Lib.hid hCb
    have hg1 := hr1.lt
    clear hr0 hr1 hgood hrd hc1 hd hC hCb
    go_wp2_with (fail)
    refine HI.out.mono ?_
    rintro e2 w2 ⟨⟨v2, rfl⟩, hr2, hk2⟩
    have hB2 : Below w1.heap.size w1 w2 := ((Below.refl _ w1).alloc (Nat.le_refl _) _).trans (hk2.below (by simp) (fun k e => by omega))
    have hs2 := hB2.size
    have hg2 := hr2.lt
    by_cases he2 : (rrU C).2.2 = 0
    · rw [he2] at hr2
      have hsf := rrU_suffix C
      have hrb : Byt (rrU C).2.1 := HCb.out.suffix hsf
      have hrl2 := hsf.length_le
      have HE := Lib.hid (RRawR_ok P w1.heap.size (rrU C).2.1 hrb (by omega) w2 hr2)
      have hrl3 := rRaw_len (rrU C).2.1
      obtain ⟨X, hX⟩ : ∃ X, X = (rRaw (rrU C).2.1).1 := ⟨_, rfl⟩
      have hXb : Byt X := by rw [hX]; exact rRaw_byt hrb
      rw [← hX] at HE hrl3
      have hhX : hitB n xs → (rRaw (rrU C).2.1).2.2 = 0 ∧ X = recordB xs := fun h => by
        obtain ⟨_, q1, q2, q3⟩ := Hhit.out h
        rw [hX, HC.out, q1, q2]
        simp only [q3]; exact ⟨trivial, trivial⟩
      have HhX := Lib.hid hhX
      have HXb := Lib.hid hXb
      have HB2 := Lib.hid hB2
      clear hX hXb hhX hsf hrb hr2 hk2 hB2 HI he2
      go_wp2_with (fail)
      refine HE.out.mono ?_
      rintro e2 w3 ⟨h, hk3⟩
      have hB3 : Below w1.heap.size w1 w3 := HB2.out.trans (hk3.below (by omega) (fun k e => by omega))
      have hr1 := Hr1.out.below hB3
      obtain ⟨hc1, _, _⟩ := hr1.cells
      have Hk3 := Lib.hid (Hk.out.trans (hB3.mono Hk.out.size))
      clear hk3 hB3 hr1 Hr1 Hk HE HB2
      rcases h with ⟨hbad, ys, e, he, rfl, hr3⟩ | ⟨hgood, hr3, A3, c3, rfl, hrd, hcX, hdX⟩
      · obtain ⟨hc2, _, _⟩ := hr3.cells
        have hno : ¬ hitB n xs := fun h => hbad (HhX.out h).1
        have Hno := Lib.hid hno
        have hb2 : (e != 0) = true := by simpa using he
        clear hbad hr3 hno he
        go_wp2_with (fail)
        go_ret2
        exact ⟨.inr ⟨Hno.out, rfl⟩, Hk3.out⟩
      · obtain ⟨hc2, _, _⟩ := hr3.cells
        have HF := Lib.hid (RFrame_any n h1 h2 A3 c3 X HXb.out (by omega) w3 hrd)
        have Hrd := Lib.hid hrd
        have Hxs3 := Lib.hid (Hr.out.below Hk3.out (Nat.le_refl _))
        have HdX := Lib.hid hdX
        clear hr3 hgood hrd hdX
        go_wp2_with (fail)
        refine HF.out.mono ?_
        rintro e4 w4 ⟨⟨v4, rfl, ho4⟩, hb4⟩
        obtain ⟨A4, c4, rfl⟩ := own_slice' ho4
        have hfl := frameB_length n X h1 h2 (by omega)
        obtain ⟨F, hF⟩ : ∃ F, F = frameB n X := ⟨_, rfl⟩
        rw [← hF] at ho4 hfl ⊢
        have Hx4 := Lib.hid (Hrd.out.below hb4 (Nat.le_refl _))
        have Hf4 := Lib.hid (Rd.of_own ho4)
        have Hxs4 := Lib.hid (Hxs3.out.below hb4 (Nat.le_refl _))
        have Hk4 := Lib.hid (Hk3.out.trans (hb4.mono Hk3.out.size))
        have HFe := Lib.hid hF
        clear hF ho4 hb4 HF Hrd Hxs3 Hk3
        by_cases hlen : xs.length < F.length
        · have hd : decide ((xs.length : Int) < (F.length : Int)) = true := decide_eq_true (by omega)
          have hdn : decide (xs.length < F.length) = true := decide_eq_true (by omega)
          have hno : ¬ hitB n xs := fun h => by
            have q := (HhX.out h).2
            unfold hitB at h
            rw [← q, ← HFe.out] at h
            have := congrArg List.length h
            rw [List.length_take] at this; omega
          have Hno := Lib.hid hno
          clear hno
          go_wp2_with (fail)
          go_ret2
          exact ⟨.inr ⟨Hno.out, rfl⟩, Hk4.out⟩
        · have hd : decide ((xs.length : Int) < (F.length : Int)) = false := decide_eq_false (by omega)
          have hdn : decide (xs.length < F.length) = false := decide_eq_false (by omega)
          have htl : (xs.take F.length).length = F.length := by rw [List.length_take]; omega
          have hSB := SameBytes_any A4 A c4 c F (xs.take F.length) (by omega) w4 Hf4.out (Hxs4.out.take _)
          rw [htl] at hSB
          by_cases heq : F = xs.take F.length
          · rw [decide_eq_true heq] at hSB
            have HSB := Lib.hid hSB
            have hyes := hit_of n xs X h1 h2 (by omega) (by rw [← HFe.out]; exact heq.symm)
            have Hyes := Lib.hid hyes
            clear hSB htl hyes heq
            go_wp2_with (fail)
            refine HSB.out.mono ?_
            rintro e5 w5 ⟨rfl, m5, rfl⟩
            go_wp2_with (fail)
            go_ret2
            refine ⟨.inl ⟨Hyes.out.1, A3, c3, by rw [Hyes.out.2]; rfl, by rw [Hyes.out.2]; exact Rd.drewN Hx4.out m5, by rw [Hyes.out.2]; exact hcX, by rw [Hyes.out.2]; have h := HdX.out; rw [HP.out] at h; exact h⟩, ?_⟩
            have h := Hk4.out; exact ⟨h.os, h.tape, h.output, h.size, h.block⟩
          · rw [decide_eq_false heq] at hSB
            have HSB := Lib.hid hSB
            have hno : ¬ hitB n xs := fun h => heq (by
              have q := (HhX.out h).2
              unfold hitB at h
              rw [← q, ← HFe.out] at h
              exact h.symm)
            have Hno := Lib.hid hno
            clear hSB htl hno heq
            go_wp2_with (fail)
            refine HSB.out.mono ?_
            rintro e5 w5 ⟨rfl, m5, rfl⟩
            go_wp2_with (fail)
            go_ret2
            refine ⟨.inr ⟨Hno.out, rfl⟩, ?_⟩
            have h := Hk4.out; exact ⟨h.os, h.tape, h.output, h.size, h.block⟩
    · have HE := Lib.hid (RRawR_err P w1.heap.size _ _ he2 w2 hr2)
      have hno : ¬ hitB n xs := fun h => he2 (by
        obtain ⟨_, q1, q2, _⟩ := Hhit.out h
        rw [HC.out, q1, q2])
      have Hno := Lib.hid hno
      have hr1 := Hr1.out.below hB2
      obtain ⟨hc1, _, _⟩ := hr1.cells
      obtain ⟨hc2, _, _⟩ := hr2.cells
      have hb2 : ((rrU C).2.2 != 0) = true := by simpa using he2
      have Hk2 := Lib.hid (Hk.out.trans (hB2.mono Hk.out.size))
      clear hr2 hk2 hB2 hr1 HI Hr1 Hk hno he2
      go_wp2_with (fail)
      refine HE.out.mono ?_
      rintro e2 w3 ⟨rfl, rfl⟩
      clear HE
      go_wp2_with (fail)
      go_ret2
      exact ⟨.inr ⟨Hno.out, rfl⟩, Hk2.out⟩
end Go.Proofs.Ytajdkcpcgfipbaa
