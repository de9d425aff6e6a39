/- The reference model's Scan reads the records that the program's Scan reads. -/
import Derived.Test.YtajdkcpcgfipbaaRefF
import Derived.Test.YtajdkcpcgfipbaaMemG
import Derived.Test.YtajdkcpcgfipbaaPureG
namespace Go.Proofs.Ytajdkcpcgfipbaa
open Go.RowKit Go.Wm
attribute [local go_sem] min_int max_int


set_option maxRecDepth 100000 in
set_option maxHeartbeats 2000000 in
/-- the reference model's Scan: the records and the number of bytes that the program's Scan sees -/
theorem RScan_any (A : Option Addr) (c : Nat) (xs : List Int) (hx : Byt xs) (hcap : xs.length ≤ c) (hs : xs.length ≤ 1099511627776) (w : World) (hr : Rd .u8 w A xs) :
    Calls Try.prog 44 #[.slice A xs.length c] w fun e w' => (∃ (A' : Option Addr) (c' : Nat), e = .returned (.tuple #[.slice A' (scanB xs).length c', .int .i64 (endOf (scanB xs) : Int)]) ∧ (scanB xs).length ≤ c' ∧ RdL w' A' ((scanB xs).map fun t => t.1)) ∧ Below w.heap.size w w' := by
  obtain ⟨i0, hi, hz0, hz1, hz2⟩ := info_parts info_bs
  have Hr := Lib.hid hr
  have Hx := Lib.hid hx
  clear hr hx
  go_enter Try.func44, Try.ntmps44
  go_wp2
  go_loopw [4, 5] (fun v i wr => ∃ (k m : Nat) (ys : List (Value × List Int)) (zs : List (List Int × Nat)) (A0 : Option Addr) (c0 : Nat), v = .slice A0 m c0 ∧ i = .int .i64 k ∧ k ≤ xs.length ∧ m ≤ k ∧ m = ys.length ∧ m = zs.length ∧ (zs.map fun t => t.1) = (ys.map fun t => t.2) ∧ scanB xs = zs ++ scanP xs.length m k (xs.drop k) ∧ endOf zs = k ∧
      wr.ownsRow w.heap.size 23 1 (.slice A0 m c0) m (ys.map fun t => t.1) ∧ (∀ t ∈ ys, El w.heap.size wr t) ∧ Below w.heap.size w wr) (fun _ i _ => xs.length - (intOf i).toNat)
  case atStart => exact ⟨0, 0, [], [], none, 0, rfl, rfl, by omega, by omega, rfl, rfl, rfl, by simp [scanB], rfl, World.ownsRow_nil _ _ _ _, by simp, Below.refl _ _⟩
  case round =>
    obtain ⟨k, m, ys, zs, A0, c0, rfl, rfl, hk, hmk, hmy, hmz, hzy, hsc, hend, hrow, hel, hB⟩ := hrel
    have Hmy := Lib.hid hmy
    have Hmz := Lib.hid hmz
    have Hzy := Lib.hid hzy
    have Hsc := Lib.hid hsc
    have Hend := Lib.hid hend
    have Hrow := Lib.hid hrow
    have Hel := Lib.hid hel
    have HB := Lib.hid hB
    have hwr := hB.size
    clear hmy hmz hzy hsc hend hrow hel hB
    -- the end: what has come is all
    have hfin : scanP xs.length m k (xs.drop k) = [] → ∀ w', (∀ t ∈ ys, El w.heap.size w' t) → w'.ownsRow w.heap.size 23 1 (.slice A0 m c0) m (ys.map fun t => t.1) →
        (scanB xs).length = m ∧ endOf (scanB xs) = k ∧ m ≤ c0 ∧ RdL w' A0 ((scanB xs).map fun t => t.1) := fun e w' h1 h2 => by
      have q := Hsc.out
      rw [e, List.append_nil] at q
      rw [q]
      exact ⟨Hmz.out.symm, Hend.out, own_cap h2, by rw [Hzy.out]; exact RdL.of_el h2 h1⟩
    have Hfin := Lib.hid hfin
    clear hfin
    by_cases hlt : k < xs.length
    · have hd : decide ((k : Int) < (xs.length : Int)) = true := decide_eq_true (by omega)
      obtain ⟨b, off, hA, hbl, _⟩ := Hr.out.resolve_left (by intro e; rw [e] at hlt; simp at hlt)
      subst hA
      have hdl : (xs.drop k).length = xs.length - k := by simp
      have hF := RFirst_any (m : Int) (by omega) (by omega) (some ⟨b, off + k, none⟩) (c - k) (xs.drop k) (Hx.out.drop k) (by omega) (by omega) wr ((Hr.out.below HB.out (Nat.le_refl _)).drop k)
      rw [hdl] at hF
      have HF := Lib.hid hF
      have Hdl := Lib.hid hdl
      clear hF hdl
      go_wp2_with (fail)
      refine HF.out.mono ?_
      rintro e w1 ⟨⟨hhit, A1, c1, rfl, hrd1, hcy, hbk⟩ | ⟨hno, rfl⟩, hb1⟩
      · obtain ⟨y, hy⟩ : ∃ y, y = recordB (xs.drop k) := ⟨_, rfl⟩
        have hyl : y.length ≤ xs.length - k := by rw [hy]; have := recordB_len (xs.drop k); rw [Hdl.out] at this; exact this
        have hyb : Byt y := by rw [hy]; exact recordB_byt (Hx.out.drop k)
        rw [← hy] at hrd1 hcy hbk ⊢
        obtain ⟨L, hL⟩ : ∃ L, L = (frameB m y).length := ⟨_, rfl⟩
        have hLk : L ≤ xs.length - k := by
          have h := hhit
          unfold hitB at h
          rw [← hy] at h
          have := congrArg List.length h
          rw [List.length_take, Hdl.out, ← hL] at this; omega
        have hLp : 0 < L := by rw [hL]; exact frameB_pos _ _
        have hstep : scanP xs.length m k (xs.drop k) = (y, k + L) :: scanP xs.length (m + 1) (k + L) (xs.drop (k + L)) := by
          have h := hhit
          unfold hitB at h
          rw [scanP_hit (by rw [Hdl.out]; omega) (by intro e; have := congrArg List.length e; rw [Hdl.out] at this; simp at this; omega) h, ← hy, ← hL, List.drop_drop]
        have HF2 := Lib.hid (RFrame_any (m : Int) (by omega) (by omega) A1 c1 y hyb (by omega) w1 hrd1)
        have Hstep := Lib.hid hstep
        have HL := Lib.hid hL
        have Hrd1 := Lib.hid hrd1
        have Hbk := Lib.hid hbk
        have Hb1 := Lib.hid hb1
        have hcy' := hcy
        clear hstep hL hrd1 hbk hb1 hhit hy HF hyb
        go_wp2_with (fail)
        refine HF2.out.mono ?_
        rintro e w2 ⟨⟨v2, rfl, ho2⟩, hb2⟩
        obtain ⟨A2, c2, rfl⟩ := own_slice' ho2
        rw [← HL.out]
        have hB2 := HB.out.trans ((Hb1.out.trans (hb2.mono Hb1.out.size)).mono HB.out.size)
        have hkp2 : Kp (fun _ => False) wr w2 := (Kp.of_below (S := fun _ => False) Hb1.out).trans (Kp.of_below (S := fun _ => False) hb2) (fun _ _ e => e)
        have hrow2 := own_kp Hrow.out hkp2 (fun _ _ e => e)
        have Hrow2 := Lib.hid hrow2
        have Hel2 := Lib.hid (fun t ht => (Hel.out t ht).kp hkp2 (fun _ _ e => e))
        have Hy2 := Lib.hid (show El w.heap.size w2 (.slice A1 y.length c1, y) from ⟨A1, c1, rfl, hcy, Hrd1.out.below hb2 (Nat.le_refl _), Hbk.out.imp id (fun q a ea => by obtain ⟨a0, e0, e1⟩ := q a ea; cases e0; rw [e1]; exact hbl)⟩)
        have HB2 := Lib.hid hB2
        have hsz2 := hB2.size
        clear ho2 hb2 hB2 hkp2 hrow2 HF2
        go_wp2_with (at_builtin; refine wpList_append_own_at _ rfl _ _ 61 rfl w.heap.size 23 i0 (.slice none 0 0) 1 24 Try.underlying61 hi hz0 hz1 hz2 rfl (by decide) _ _ _ rfl (Hrow2.out.alloc _) ⟨w2.heap.size, 0, none⟩ 1 1 [.slice A1 y.length c1] rfl rfl (cell_one_new _ _ _) (by simp [Value.oneCell']) (by unfold maxLen; omega) (by omega) (by simp; omega) ?_; intro v' w3 hown' hgrow _ hat; obtain ⟨g', cap', rfl⟩ := ownsRow_succ hown'; have Hown := Lib.hid hown'; have Hgrow := Lib.hid hgrow; clear hown' hgrow hat)
        have hlo : ∀ b, some b = (Value.slice A0 m c0).ownBlock → w.heap.size ≤ b := fun b e => (Hrow2.out.lt b e.symm).1
        have hkp3 : Kp (fun k => some k = (Value.slice A0 m c0).ownBlock) w2 w3 := ((Kp.refl _ w2).alloc _).trans (Kp.of_grown (S := fun k => some k = (Value.slice A0 m c0).ownBlock) Hgrow.out (fun k e => e.symm)) (fun _ _ e => e)
        have hS : ∀ b, b < w.heap.size → ¬ some b = (Value.slice A0 m c0).ownBlock := fun b hb e => by have := hlo b e; omega
        refine ⟨⟨k + L, m + 1, ys ++ [(.slice A1 y.length c1, y)], zs ++ [(y, k + L)], some ⟨g', 0, none⟩, cap', rfl, by push_cast; rfl, by omega, by omega, ?_, ?_, ?_, ?_, ?_, ?_, ?_, ?_⟩, by simp [intOf]; omega⟩
        · rw [List.length_append, ← Hmy.out]; rfl
        · rw [List.length_append, ← Hmz.out]; rfl
        · rw [List.map_append, List.map_append, Hzy.out]; rfl
        · rw [Hsc.out, Hstep.out, List.append_assoc]; rfl
        · rw [endOf_snoc]
        · exact own_cast Hown.out rfl (by rw [List.map_append]; rfl)
        · intro t ht
          rcases List.mem_append.1 ht with ht | ht
          · exact (Hel2.out t ht).kp hkp3 hS
          · rw [List.mem_singleton.1 ht]; exact Hy2.out.kp hkp3 hS
        · exact HB2.out.trans (hkp3.below (by omega) hlo)
      · have Hno := Lib.hid hno
        have Hb1 := Lib.hid hb1
        clear hno hb1 HF
        go_wp2_with (fail)
        go_ret2
        have hkp : Kp (fun _ => False) wr w1 := Kp.of_below Hb1.out
        obtain ⟨q1, q2, q3, q4⟩ := Hfin.out (scanP_miss Hno.out) w1 (fun t ht => (Hel.out t ht).kp hkp (fun _ _ e => e)) (own_kp Hrow.out hkp (fun _ _ e => e))
        exact ⟨⟨A0, c0, by rw [q1, q2]; rfl, by rw [q1]; exact q3, q4⟩, HB.out.trans (Hb1.out.mono HB.out.size)⟩
    · have hd : decide ((k : Int) < (xs.length : Int)) = false := decide_eq_false (by omega)
      have hdr : xs.drop k = [] := List.drop_of_length_le (by omega)
      have Hdr := Lib.hid hdr
      clear hdr
      go_wp2
      go_ret2
      obtain ⟨q1, q2, q3, q4⟩ := Hfin.out (by rw [Hdr.out, scanP_nil]) wr Hel.out Hrow.out
      exact ⟨⟨A0, c0, by rw [q1, q2]; rfl, by rw [q1]; exact q3, q4⟩, HB.out⟩
end Go.Proofs.Ytajdkcpcgfipbaa
