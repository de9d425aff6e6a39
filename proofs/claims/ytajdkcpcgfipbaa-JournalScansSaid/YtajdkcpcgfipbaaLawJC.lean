/- JournalFrames: the walk. -/
import Derived.Test.YtajdkcpcgfipbaaLawJA
import Derived.Test.YtajdkcpcgfipbaaRefH
namespace Go.Proofs.Ytajdkcpcgfipbaa
open Go.RowKit Go.Wm
attribute [local go_sem] min_int max_int

theorem lastAt_end (ys : List Rec) : lastAt ys = endOf (ys.map fun t : Rec => t.2) := by
  unfold lastAt endOf
  rw [List.getLast?_map, Option.map_map]
  rfl

set_option maxRecDepth 100000 in
set_option maxHeartbeats 4000000 in
theorem frames_walk (A0 : Option Addr) (c0 : Nat) (ls : List Int) (n : Int) (A2 : Option Addr) (c2 : Nat) (bs : List Int) (A3 : Option Addr) (c3 : Nat) (rs : List Int)
    (hls : ∀ n ∈ ls, -9223372036854775808 ≤ n ∧ n ≤ 9223372036854775807) (hl0 : ls.length ≤ 9223372036854775807) (b1 : -9223372036854775808 ≤ n) (b2 : n ≤ 9223372036854775807)
    (hbs : Byt bs) (hc2 : bs.length ≤ c2) (hl2 : bs.length ≤ 9223372036854775807) (hrs : Byt rs) (hc3 : rs.length ≤ c3) (hl3 : rs.length ≤ 9223372036854775807) (w : World) (hr0 : Rd .i64 w A0 ls) (hr2 : Rd .u8 w A2 bs) (hr3 : Rd .u8 w A3 rs) :
    Calls Try.prog 5 #[.slice A0 ls.length c0, .int .i64 n, .slice A2 bs.length c2, .slice A3 rs.length c3] w fun e w' => e = .returned (.bool true) ∧ Below w.heap.size w w' := by
  obtain ⟨i0, hi, hz0, hz1, hz2⟩ := info_parts info_bs
  obtain ⟨j0, hj, hy0, hy1, hy2⟩ := info_parts info_u8
  obtain ⟨y, hy⟩ : ∃ y, y = bs.take 200 := ⟨_, rfl⟩
  have hyb : Byt y := by rw [hy]; exact hbs.take 200
  have hyl : y.length ≤ 200 := by rw [hy, List.length_take]; omega
  have hFew := Few_any A2 c2 bs 200 hc2 hl2 (by decide) w hr2
  rw [← hy] at hFew
  have HFew := Lib.hid hFew
  have Hls := Lib.hid hls
  have Hrs := Lib.hid hrs
  have Hr0 := Lib.hid hr0
  have Hr3 := Lib.hid hr3
  have Hyb := Lib.hid hyb
  clear hFew hy hr0 hr2 hr3 hls hbs hrs hyb
  go_enter Try.func5, Try.ntmps5
  go_wp2_with (fail)
  refine HFew.out.mono ?_
  rintro e W1 ⟨⟨v1, rfl, ho1⟩, hb1⟩
  obtain ⟨A1, c1, rfl⟩ := own_slice' ho1
  have HFr := Lib.hid (Frame_any n b1 b2 A1 c1 y Hyb.out (by omega) W1 (Rd.of_own ho1))
  have Ho1 := Lib.hid ho1
  have HB1 := Lib.hid hb1
  clear ho1 hb1 HFew
  go_wp2_with (fail)
  refine HFr.out.mono ?_
  rintro e W2 ⟨⟨v2, rfl, ho2⟩, hb2⟩
  obtain ⟨A4, c4, rfl⟩ := own_slice' ho2
  have hfl := frameB_length n y b1 b2 (by omega)
  obtain ⟨F, hF⟩ : ∃ F, F = frameB n y := ⟨_, rfl⟩
  have Ho2 := Lib.hid (own_kp Ho1.out (Kp.of_below (S := fun _ => False) hb2) (fun _ _ e => e))
  have hRF := RFrame_any n b1 b2 A1 c1 y Hyb.out (by omega) W2 (Rd.of_own Ho2.out)
  rw [← hF] at ho2 hfl hRF ⊢
  have HRF := Lib.hid hRF
  have Hf2 := Lib.hid (Rd.of_own ho2)
  have HB2 := Lib.hid (HB1.out.trans (hb2.mono HB1.out.size))
  clear ho2 hb2 hRF hF HFr Ho1 HB1
  go_wp2_with (fail)
  refine HRF.out.mono ?_
  rintro e W3 ⟨⟨v3, rfl, ho3⟩, hb3⟩
  obtain ⟨A5, c5, rfl⟩ := own_slice' ho3
  have hSB := SameBytes_any A4 A5 c4 c5 F F (by omega) W3 (Hf2.out.below hb3 (Nat.le_refl _)) (Rd.of_own ho3)
  rw [show decide (F = F) = true from decide_eq_true rfl] at hSB
  have HSB := Lib.hid hSB
  have Ho3 := Lib.hid (own_kp Ho2.out (Kp.of_below (S := fun _ => False) hb3) (fun _ _ e => e))
  have HB3 := Lib.hid (HB2.out.trans (hb3.mono HB2.out.size))
  clear ho3 hb3 hSB HRF Hf2 Ho2 HB2
  go_wp2_with (fail)
  refine HSB.out.mono ?_
  rintro e W4 ⟨rfl, m4, hm4⟩
  have hB4 : Below w.heap.size w W4 := by rw [hm4]; have h := HB3.out; exact ⟨h.os, h.tape, h.output, h.size, h.block⟩
  have hk4 : Kp (fun _ => False) W3 W4 := by rw [hm4]; exact ⟨rfl, rfl, rfl, Nat.le_refl _, fun _ _ _ => rfl⟩
  have Ho4 := Lib.hid (own_kp Ho3.out hk4 (fun _ _ e => e))
  have HRc := Lib.hid (Records_any A0 c0 ls Hls.out hl0 W4 (Hr0.out.below hB4 (Nat.le_refl _)))
  have HB4 := Lib.hid hB4
  clear hB4 hk4 hm4 HSB Ho3 HB3 Hr0 Hls
  go_wp2_with (fail)
  refine HRc.out.mono ?_
  rintro e W5 ⟨⟨A6, c6, ys, rfl, how5, hy6, hys⟩, hb5⟩
  have Ho5 := Lib.hid (own_kp Ho4.out (Kp.of_below (S := fun _ => False) hb5) (fun _ _ e => e))
  have How5 := Lib.hid how5
  have Hys := Lib.hid hys
  have HB5 := Lib.hid (HB4.out.trans (hb5.mono HB4.out.size))
  have hs45 := hb5.size
  have HB4s := Lib.hid HB4.out.size
  clear how5 hys hb5 HRc Ho4 HB4
  go_wp2_with (at_builtin; refine wpList_append_own_at _ rfl _ _ 61 rfl W4.heap.size 23 i0 (.slice none 0 0) 1 24 Try.underlying61 hi hz0 hz1 hz2 rfl (by decide) _ _ _ rfl (How5.out.1.alloc _) ⟨W5.heap.size, 0, none⟩ 1 1 [.slice A1 y.length c1] rfl rfl (cell_one_new _ _ _) (by simp [Value.oneCell']) (by unfold maxLen; omega) (by omega) (by simp; omega) ?_; intro v' w6 hown' hgrow _ hat; obtain ⟨g', cap', rfl⟩ := ownsRow_succ hown'; have Hown := Lib.hid hown'; have Hgrow := Lib.hid hgrow; clear hown' hgrow hat)
  have hg6 : (W5.alloc (.cells #[.slice A1 y.length c1] 23)).grownBy w6 (Value.slice A6 ys.length c6).ownBlock := Hgrow.out
  have hkp6 : Kp (fun k' => some k' = (Value.slice A6 ys.length c6).ownBlock) W5 w6 := ((Kp.refl _ W5).alloc _).trans (Kp.of_grown (S := fun k' => some k' = (Value.slice A6 ys.length c6).ownBlock) hg6 (fun k e => e.symm)) (fun _ _ e => e)
  have how6 := How5.out.snoc (by decide) hkp6 Hown.out Ho5.out
  have hB6 : Below w.heap.size w w6 := HB5.out.trans ((hkp6.below (by omega) (fun b e => (How5.out.1.lt b e.symm).1)).mono HB4s.out)
  obtain ⟨xss, hxss⟩ : ∃ xss, xss = (ys ++ [(Value.slice A1 y.length c1, y)]).map fun t => t.2 := ⟨_, rfl⟩
  have hrl6 : RdL w6 (some ⟨g', 0, none⟩) xss := by rw [hxss]; exact RdL.of_own how6
  have hxl : xss.length = ys.length + 1 := by rw [hxss]; simp
  have h200 : ∀ x ∈ xss, x.length ≤ 200 ∧ Byt x := fun x hx => by
    rw [hxss] at hx
    obtain ⟨t, ht, rfl⟩ := List.mem_map.1 hx
    rcases List.mem_append.1 ht with ht | ht
    · have := Hys.out t ht; exact ⟨by omega, this.2⟩
    · rw [List.mem_singleton.1 ht]; exact ⟨hyl, Hyb.out⟩
  have hne : xss ≠ [] := fun e => by rw [e] at hxl; simp at hxl
  obtain ⟨m, hm⟩ : ∃ m, m = ys.length + 1 := ⟨_, rfl⟩
  rw [← hm] at hxl ⊢
  have hm7 : m ≤ 7 := by omega
  obtain ⟨b', off', hA', hbl6, hcs6⟩ := hrl6.resolve_left hne
  cases hA'
  have Hcs6 := Lib.hid hcs6
  have Hrl6 := Lib.hid hrl6
  have Hne := Lib.hid hne
  have H200 := Lib.hid h200
  have Hxl := Lib.hid hxl
  have HB6 := Lib.hid hB6
  have hsz6 := hB6.size
  clear hg6 hkp6 how6 hB6 hxss hrl6 hne h200 hxl hcs6 hm Hown Hgrow How5 Ho5 HB5 Hys
  go_loopw [11, 12] (fun v i wr => ∃ (k l : Nat) (A7 : Option Addr) (c7 : Nat), v = .slice A7 l c7 ∧ i = .int .i64 k ∧ k ≤ m ∧ l = (framesB 0 (xss.take k)).length ∧ wr.ownsRow w6.heap.size 5 1 (.slice A7 l c7) l ((framesB 0 (xss.take k)).map (.int .u8)) ∧ Below w6.heap.size w6 wr) (fun _ i _ => m - (intOf i).toNat)
  case atStart => exact ⟨0, 0, none, 0, rfl, rfl, by omega, rfl, World.ownsRow_nil _ _ _ _, Below.refl _ _⟩
  case round =>
    obtain ⟨k, l, A7, c7, rfl, rfl, hkm, hlk, hrow, hB⟩ := hrel
    have hll : l ≤ 240 * k := by
      rw [hlk]
      have := framesB_length (xss.take k) 0 (fun x hx => (H200.out x (List.mem_of_mem_take hx)).1) (by rw [List.length_take]; omega)
      rw [List.length_take] at this
      exact Nat.le_trans this (Nat.mul_le_mul_left _ (Nat.min_le_left _ _))
    have Hlk := Lib.hid hlk
    have Hrow := Lib.hid hrow
    have HB := Lib.hid hB
    have hwr := hB.size
    clear hlk hrow hB
    by_cases hlt : k < m
    · have hd : decide ((k : Int) < (m : Int)) = true := decide_eq_true (by omega)
      have hkx : k < xss.length := by rw [Hxl.out]; exact hlt
      obtain ⟨Aj, cj, hcell0, hcj, hrj⟩ := Hcs6.out k hkx
      have hcell := (HB.out.cell (p := ⟨g', 0 + k, none⟩) hbl6).trans hcell0
      rw [Nat.zero_add] at hcell
      obtain ⟨x, hx⟩ : ∃ x, x = xss[k]?.getD [] := ⟨_, rfl⟩
      rw [← hx] at hcell hcj hrj
      have hx2 : xss[k]? = some x := by rw [hx, List.getElem?_eq_getElem hkx]; rfl
      have hxm := H200.out x (List.mem_of_getElem? hx2)
      have HFk := Lib.hid (Frame_any (k : Int) (by omega) (by omega) Aj cj x hxm.2 (by omega) wr (hrj.below HB.out (Nat.le_refl _)))
      have hfk := frameB_length k x (by omega) (by omega) (by omega)
      have hx200 : x.length ≤ 200 := hxm.1
      have Hx2 := Lib.hid hx2
      clear hcell0 hrj hx hx2 hxm hkx
      go_wp2_with (fail)
      refine HFk.out.mono ?_
      rintro e W8 ⟨⟨v8, rfl, ho8⟩, hb8⟩
      obtain ⟨A8, c8, rfl⟩ := own_slice' ho8
      obtain ⟨Fk, hFk⟩ : ∃ Fk, Fk = frameB k x := ⟨_, rfl⟩
      rw [← hFk] at ho8 hfk ⊢
      have Hr8 := Lib.hid (Rd.of_own ho8)
      have Hrow8 := Lib.hid (own_kp Hrow.out (Kp.of_below (S := fun _ => False) hb8) (fun _ _ e => e))
      have HB8 := Lib.hid (HB.out.trans (hb8.mono hwr))
      have hs8 := hb8.size
      have HFke := Lib.hid hFk
      clear ho8 hb8 hFk HFk
      go_wp2_with (at_builtin; refine wpList_append_rd .u8 rfl _ _ 23 rfl w6.heap.size 5 j0 (.int .u8 0) 1 Try.underlying23 hj hy0 hy1 hy2 rfl _ _ _ _ rfl Hrow8.out A8 _ c8 Fk rfl rfl Hr8.out (by unfold maxLen; omega) (by omega) (by omega) ?_; intro A9 c9 w9 hown' _ _ hb9; have Hown := Lib.hid hown'; have Hb9 := Lib.hid hb9; clear hown' hb9)
      have e : framesB 0 (xss.take (k + 1)) = framesB 0 (xss.take k) ++ Fk := by
        have hkx : k < xss.length := by rw [Hxl.out]; exact hlt
        have hxk : xss[k] = x := by have := Hx2.out; rw [List.getElem?_eq_getElem hkx] at this; cases this; rfl
        rw [List.take_succ_eq_append_getElem hkx, framesB_snoc, hxk, List.length_take, Nat.min_eq_left (by omega), Nat.zero_add, HFke.out]
      exact ⟨⟨k + 1, l + Fk.length, A9, c9, rfl, by go_num, by omega, by rw [e, List.length_append, ← Hlk.out], own_cast Hown.out rfl (by rw [e, List.map_append]), HB8.out.trans Hb9.out⟩, by simp [intOf]; omega⟩
    · obtain rfl : k = m := by omega
      have hd : decide ((k : Int) < (k : Int)) = false := decide_eq_false (by omega)
      have hxk : xss.take k = xss := List.take_of_length_le (by rw [Hxl.out]; exact Nat.le_refl _)
      have hrow := Hrow.out
      have hlk := Hlk.out
      rw [hxk] at hrow hlk
      obtain ⟨P, hP⟩ : ∃ P, P = framesB 0 xss := ⟨_, rfl⟩
      rw [← hP] at hrow hlk
      subst hlk
      have hPb : Byt P := by rw [hP]; exact framesB_byt _ _ (fun x hx => (H200.out x hx).2)
      have HPe := Lib.hid hP
      have HPb := Lib.hid hPb
      have Hrow2 := Lib.hid hrow
      have hBw : Below w.heap.size w wr := HB6.out.trans (HB.out.mono hsz6)
      have hFw := Few_any A3 c3 rs 30 hc3 hl3 (by decide) wr (Hr3.out.below hBw (Nat.le_refl _))
      obtain ⟨T, hT⟩ : ∃ T, T = rs.take 30 := ⟨_, rfl⟩
      rw [← hT] at hFw
      have hTb : Byt T := by rw [hT]; exact Hrs.out.take 30
      have hTl : T.length ≤ 30 := by rw [hT, List.length_take]; omega
      have HFw := Lib.hid hFw
      have HTb := Lib.hid hTb
      have HBw := Lib.hid hBw
      clear hrow hP hPb hxk Hrow Hlk hBw hFw hT hTb Hcs6 Hr3
      go_wp2_with (fail)
      refine HFw.out.mono ?_
      rintro e W7 ⟨⟨v7, rfl, ho7⟩, hb7⟩
      obtain ⟨A8, c8, rfl⟩ := own_slice' ho7
      have Hr7 := Lib.hid (Rd.of_own ho7)
      have Hrow7 := Lib.hid (own_kp Hrow2.out (Kp.of_below (S := fun _ => False) hb7) (fun _ _ e => e))
      have HB7 := Lib.hid (HB.out.trans (hb7.mono hwr))
      have hs7 := hb7.size
      clear ho7 hb7 HFw Hrow2
      go_wp2_with (at_builtin; refine wpList_append_rd .u8 rfl _ _ 23 rfl w6.heap.size 5 j0 (.int .u8 0) 1 Try.underlying23 hj hy0 hy1 hy2 rfl _ _ _ _ rfl Hrow7.out A8 _ c8 T rfl rfl Hr7.out (by unfold maxLen; omega) (by omega) (by omega) ?_; intro A9 c9 w9 hown' _ _ hb9; have Hown := Lib.hid hown'; have Hb9 := Lib.hid hb9; clear hown' hb9)
      obtain ⟨Q, hQ⟩ : ∃ Q, Q = P ++ T := ⟨_, rfl⟩
      have hQl : Q.length = P.length + T.length := by rw [hQ, List.length_append]
      have hQb : Byt Q := by rw [hQ]; exact HPb.out.append HTb.out
      have hown9 : w9.ownsRow w6.heap.size 5 1 (.slice A9 (P.length + T.length) c9) (P.length + T.length) (Q.map (.int .u8)) := own_cast Hown.out rfl (by rw [hQ, List.map_append])
      have hc9 := own_cap hown9
      obtain ⟨Z, hZ⟩ : ∃ Z, Z = scanB Q := ⟨_, rfl⟩
      obtain ⟨s1, s2, s3⟩ := scanB_frames xss T (fun x hx => (H200.out x hx).1) (by rw [Hxl.out]; omega) Hne.out
      rw [← HPe.out, ← hQ, ← hZ] at s1 s2 s3
      rw [Hxl.out] at s1 s3
      have hZc : Z.length ≤ Q.length := by rw [hZ]; exact scanP_count _ _ _ _
      have hZe : ∀ t ∈ Z, t.1.length ≤ Q.length := fun t ht => by rw [hZ] at ht; exact (scanP_ge _ _ _ _ t ht).2
      have hS := Scan_any A9 c9 Q hQb (by omega) (by omega) w9 (Rd.of_own hown9)
      rw [hQl, ← hZ] at hS
      have HS := Lib.hid hS
      have HQr := Lib.hid (Rd.of_own hown9)
      have HB9 := Lib.hid (HB7.out.trans Hb9.out)
      have hs9 := HB9.out.size
      obtain ⟨G, hG⟩ : ∃ G, G = Z.map fun t => t.1 := ⟨_, rfl⟩
      obtain ⟨z, hz⟩ : ∃ z, z = G.length := ⟨_, rfl⟩
      have hzZ : Z.length = z := by rw [hz, hG, List.length_map]
      have hGe : ∀ t ∈ G, t.length ≤ 140737488351232 := fun t ht => by
        rw [hG] at ht
        obtain ⟨q, hq, rfl⟩ := List.mem_map.1 ht
        have := hZe q hq; omega
      rw [← hG] at s1
      have HGe := Lib.hid hGe
      have HG := Lib.hid hG
      have Hz := Lib.hid hz
      have HZ := Lib.hid hZ
      have HzZ := Lib.hid hzZ
      have Hs1 := Lib.hid s1
      have HQb := Lib.hid hQb
      have HQl := Lib.hid hQl
      have hzb : z ≤ 1720 := by omega
      have hkz : k ≤ z := by omega
      obtain ⟨E, hE⟩ : ∃ E, E = endOf Z := ⟨_, rfl⟩
      rw [← hE] at s2
      have HE := Lib.hid hE
      clear hQ hQb hS hown9 hZc hZe hZ hG hz hzZ hGe s1 s3 hE hQl Hown Hb9 HB7 Hrow7 Hr7
      go_wp2_with (fail)
      refine HS.out.mono ?_
      rintro e W10 ⟨⟨v10, rs10, rfl, hrs, hrow, hin⟩, hb10⟩
      have how10 : OwL W10 w9.heap.size 23 5 v10 (rs10.map fun t : Rec => (t.1, t.2.1)) := ⟨by
        rw [List.map_map, List.length_map]; exact hrow, fun t ht => by
        obtain ⟨q, hq, rfl⟩ := List.mem_map.1 ht
        exact ⟨_, hin q hq⟩⟩
      have hl10 : lastAt rs10 = E := by rw [lastAt_end, hrs, HE.out]
      obtain ⟨A10, c10, rfl, hrl10, hc10⟩ := how10.rd
      have hG10 : (rs10.map fun t : Rec => (t.1, t.2.1)).map (fun t => t.2) = G := by
        rw [HG.out, ← hrs, List.map_map, List.map_map]; rfl
      have hn10 : (rs10.map fun t : Rec => (t.1, t.2.1)).length = z := by rw [Hz.out, ← hG10]; simp
      rw [hG10] at hrl10
      rw [hn10] at hc10 ⊢
      rw [hl10]
      have HRS := Lib.hid (RScan_any A9 c9 Q HQb.out (by rw [HQl.out]; exact hc9) (by rw [HQl.out]; omega) W10 (HQr.out.below hb10 (Nat.le_refl _)))
      have HRS' := HRS.out
      rw [HQl.out, ← HZ.out, HzZ.out, ← HE.out, ← HG.out] at HRS'
      have HRS2 := Lib.hid HRS'
      have Hrl10 := Lib.hid hrl10
      have HB10 := Lib.hid (HB9.out.trans (hb10.mono hs9))
      have hs10 := HB10.out.size
      clear HRS HRS' hrs hrow hin how10 hl10 hG10 hn10 hrl10 hb10 HS HQr HB9
      go_wp2_with (fail)
      refine HRS2.out.mono ?_
      rintro e W11 ⟨⟨A11, c11, rfl, hc11, hrl11⟩, hb11⟩
      have hrl10 := Hrl10.out.below hb11 (Nat.le_refl _)
      have hSL := SameLists_any A10 A11 c10 c11 G G (by rw [← Hz.out]; omega) HGe.out W11 hrl10 hrl11
      rw [show decide (G = G) = true from decide_eq_true rfl, ← Hz.out] at hSL
      have HSL := Lib.hid hSL
      have Hrl11 := Lib.hid hrl10
      have HB11 := Lib.hid (HB10.out.trans (hb11.mono hs10))
      have hs11 := HB11.out.size
      clear hSL hrl10 hrl11 hb11 HRS2 Hrl10 HB10
      go_wp2_with (fail)
      refine HSL.out.mono ?_
      rintro e W12 ⟨rfl, m12, hm12⟩
      have hB12 : Below w6.heap.size w6 W12 := by rw [hm12]; have h := HB11.out; exact ⟨h.os, h.tape, h.output, h.size, h.block⟩
      have hrl12 : RdL W12 A10 G := by rw [hm12]; exact RdL.drewN Hrl11.out m12
      have hrx : RdL W12 A10 xss := by have := hrl12.take k; rw [Hs1.out] at this; exact this
      have hSL := SameLists_any A10 (some ⟨g', 0, none⟩) c10 cap' xss xss (by rw [Hxl.out]; omega) (fun t ht => by have := (H200.out t ht).1; omega) W12 hrx (Hrl6.out.below hB12 (Nat.le_refl _))
      rw [show decide (xss = xss) = true from decide_eq_true rfl, Hxl.out] at hSL
      have HSL2 := Lib.hid hSL
      have HB12 := Lib.hid hB12
      have d1 : decide ((P.length : Int) ≤ (E : Int)) = true := decide_eq_true (by omega)
      have d2 : decide ((k : Int) ≤ (z : Int)) = true := decide_eq_true (by omega)
      clear hSL hrx hrl12 hB12 hm12 HSL HB11 Hrl11 Hrl6
      go_wp2_with (fail)
      refine HSL2.out.mono ?_
      rintro e W13 ⟨rfl, m13, hm13⟩
      have hB13 : Below w6.heap.size w6 W13 := by rw [hm13]; have h := HB12.out; exact ⟨h.os, h.tape, h.output, h.size, h.block⟩
      have HB13 := Lib.hid hB13
      have HL := Lib.hid (lives25_any W13)
      clear hB13 hm13 HSL2 HB12
      go_wp2_with (fail)
      refine HL.out.mono ?_
      rintro e W14 ⟨rfl, hb14⟩
      have HB14 := Lib.hid (HB6.out.trans ((HB13.out.trans (hb14.mono HB13.out.size)).mono hsz6))
      clear hb14 HL HB13
      go_wp2_with (fail)
      go_ret
      exact ⟨rfl, HB14.out⟩
end Go.Proofs.Ytajdkcpcgfipbaa
