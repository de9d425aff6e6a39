/- JournalScans: the walk. -/
import Derived.Test.YtajdkcpcgfipbaaLawJC
import Derived.Deep.RegionHeld3
import Derived.Deep.DrawnRows
namespace Go.Proofs.Ytajdkcpcgfipbaa
open Go.RowKit Go.Wm
attribute [local go_sem] min_int max_int
attribute [local go_sem ↓] Go.wp_at_zero Go.wp_at_succ

set_option maxRecDepth 100000 in
set_option maxHeartbeats 4000000 in
theorem scans_walk (A2 : Option Addr) (c2 : Nat) (bs : List Int) (A0 : Option Addr) (c0 : Nat) (ls : List Int) (at0 : Int) (ch : Int)
    (hls : ∀ n ∈ ls, -9223372036854775808 ≤ n ∧ n ≤ 9223372036854775807) (hl0 : ls.length ≤ 9223372036854775807) (b1 : -9223372036854775808 ≤ at0) (b2 : at0 ≤ 9223372036854775807)
    (hch : 0 ≤ ch ∧ ch < 256) (hbs : Byt bs) (hc2 : bs.length ≤ c2) (hl2 : bs.length ≤ 9223372036854775807) (w : World) (hr0 : Rd .i64 w A0 ls) (hr2 : Rd .u8 w A2 bs) :
    Calls Try.prog 6 #[.slice A2 bs.length c2, .slice A0 ls.length c0, .int .i64 at0, .int .u8 ch] w fun e w' => e = .returned (.bool true) ∧ Below w.heap.size w w' := by
  obtain ⟨i0, hi, hz0, hz1, hz2⟩ := info_parts info_bs
  obtain ⟨j0, hj, hy0, hy1, hy2⟩ := info_parts info_u8
  have HRc := Lib.hid (Records_any A0 c0 ls hls hl0 w hr0)
  have Hbs := Lib.hid hbs
  have Hr2 := Lib.hid hr2
  have hs0 : w.heap.size ≤ w.heap.size := Nat.le_refl _
  clear hr0 hr2 hls hbs
  go_enter Try.func6, Try.ntmps6
  go_wp2_with (fail)
  refine HRc.out.mono ?_
  rintro e w6 ⟨⟨A6, c6, ys, rfl, how6, hy6, hys⟩, hB6⟩
  obtain ⟨xss, hxss⟩ : ∃ xss, xss = ys.map fun t => t.2 := ⟨_, rfl⟩
  have hrl6 : RdL w6 A6 xss := by rw [hxss]; exact RdL.of_own how6
  have hxl : xss.length = ys.length := by rw [hxss]; simp
  have h200 : ∀ x ∈ xss, x.length ≤ 200 ∧ Byt x := fun x hx => by
    rw [hxss] at hx
    obtain ⟨t, ht, rfl⟩ := List.mem_map.1 hx
    have := hys t ht; exact ⟨by omega, this.2⟩
  obtain ⟨m, hm⟩ : ∃ m, m = ys.length := ⟨_, rfl⟩
  rw [← hm] at hxl ⊢
  have hm7 : m ≤ 7 := by omega
  have Hrl6 := Lib.hid hrl6
  have H200 := Lib.hid h200
  have Hxl := Lib.hid hxl
  have HB6 := Lib.hid hB6
  have hsz6 := hB6.size
  clear how6 hB6 hxss hrl6 h200 hxl hm hys HRc
  go_wp2
  go_loopw [10, 11] (fun v i wr => ∃ (k l : Nat) (A7 : Option Addr) (c7 : Nat), v = .slice A7 l c7 ∧ i = .int .i64 k ∧ k ≤ m ∧ l = (framesB 0 (xss.take k)).length ∧ wr.ownsRow w6.heap.size 5 1 (.slice A7 l c7) l ((framesB 0 (xss.take k)).map (.int .u8)) ∧ Below w6.heap.size w6 wr) (fun _ i _ => m - (intOf i).toNat)
  case atStart => exact ⟨0, 0, none, 0, rfl, rfl, by omega, rfl, World.ownsRow_nil _ _ _ _, Below.refl _ _⟩
  case round =>
    obtain ⟨k, l, A7, c7, rfl, rfl, hkm, hlk, hrow, hB⟩ := hrel
    have hll : l ≤ 240 * k := by
      rw [hlk]
      have := framesB_length (xss.take k) 0 (fun x hx => (H200.out x (List.mem_of_mem_take hx)).1) (by rw [List.length_take]; omega)
      rw [List.length_take] at this
      exact Nat.le_trans this (Nat.mul_le_mul_left _ (Nat.min_le_left _ _))
    have Hlk := Lib.hid hlk
    have Hrow := Lib.hid hrow
    have HB := Lib.hid hB
    have hwr := hB.size
    clear hlk hrow hB
    by_cases hlt : k < m
    · have hd : decide ((k : Int) < (m : Int)) = true := decide_eq_true (by omega)
      have hkx : k < xss.length := by rw [Hxl.out]; exact hlt
      obtain ⟨b', off', hA', hbl6, hcs6⟩ := Hrl6.out.resolve_left (by intro e; rw [e] at hkx; simp at hkx)
      subst hA'
      obtain ⟨Aj, cj, hcell0, hcj, hrj⟩ := hcs6 k hkx
      have hcell := (HB.out.cell (p := ⟨b', off' + k, none⟩) hbl6).trans hcell0
      obtain ⟨x, hx⟩ : ∃ x, x = xss[k]?.getD [] := ⟨_, rfl⟩
      rw [← hx] at hcell hcj hrj
      have hx2 : xss[k]? = some x := by rw [hx, List.getElem?_eq_getElem hkx]; rfl
      have hxm := H200.out x (List.mem_of_getElem? hx2)
      have HFk := Lib.hid (RFrame_any (k : Int) (by omega) (by omega) Aj cj x hxm.2 (by omega) wr (hrj.below HB.out (Nat.le_refl _)))
      have hfk := frameB_length k x (by omega) (by omega) (by omega)
      have hx200 : x.length ≤ 200 := hxm.1
      have Hx2 := Lib.hid hx2
      clear hcell0 hrj hx hx2 hxm hkx hcs6
      go_wp2_with (fail)
      refine HFk.out.mono ?_
      rintro e W8 ⟨⟨v8, rfl, ho8⟩, hb8⟩
      obtain ⟨A8, c8, rfl⟩ := own_slice' ho8
      obtain ⟨Fk, hFk⟩ : ∃ Fk, Fk = frameB k x := ⟨_, rfl⟩
      rw [← hFk] at ho8 hfk ⊢
      have Hr8 := Lib.hid (Rd.of_own ho8)
      have Hrow8 := Lib.hid (own_kp Hrow.out (Kp.of_below (S := fun _ => False) hb8) (fun _ _ e => e))
      have HB8 := Lib.hid (HB.out.trans (hb8.mono hwr))
      have hs8 := hb8.size
      have HFke := Lib.hid hFk
      clear ho8 hb8 hFk HFk
      go_wp2_with (at_builtin; refine wpList_append_rd .u8 rfl _ _ 23 rfl w6.heap.size 5 j0 (.int .u8 0) 1 Try.underlying23 hj hy0 hy1 hy2 rfl _ _ _ _ rfl Hrow8.out A8 _ c8 Fk rfl rfl Hr8.out (by unfold maxLen; omega) (by omega) (by omega) ?_; intro A9 c9 w9 hown' _ _ hb9; have Hown := Lib.hid hown'; have Hb9 := Lib.hid hb9; clear hown' hb9)
      have e : framesB 0 (xss.take (k + 1)) = framesB 0 (xss.take k) ++ Fk := by
        have hkx : k < xss.length := by rw [Hxl.out]; exact hlt
        have hxk : xss[k] = x := by have := Hx2.out; rw [List.getElem?_eq_getElem hkx] at this; cases this; rfl
        rw [List.take_succ_eq_append_getElem hkx, framesB_snoc, hxk, List.length_take, Nat.min_eq_left (by omega), Nat.zero_add, HFke.out]
      exact ⟨⟨k + 1, l + Fk.length, A9, c9, rfl, by go_num, by omega, by rw [e, List.length_append, ← Hlk.out], own_cast Hown.out rfl (by rw [e, List.map_append]), HB8.out.trans Hb9.out⟩, by simp [intOf]; omega⟩
    · obtain rfl : k = m := by omega
      have hd : decide ((k : Int) < (k : Int)) = false := decide_eq_false (by omega)
      have hxk : xss.take k = xss := List.take_of_length_le (by rw [Hxl.out]; exact Nat.le_refl _)
      have hrow := Hrow.out
      have hlk := Hlk.out
      rw [hxk] at hrow hlk
      obtain ⟨P, hP⟩ : ∃ P, P = framesB 0 xss := ⟨_, rfl⟩
      rw [← hP] at hrow hlk
      subst hlk
      have hPb : Byt P := by rw [hP]; exact framesB_byt _ _ (fun x hx => (H200.out x hx).2)
      have HPb := Lib.hid hPb
      have Hrow2 := Lib.hid hrow
      clear hrow hP hPb hxk Hrow Hlk
      have hLP : P.length ≤ 1680 := by omega
      obtain ⟨L, hL⟩ : ∃ L, L = P.length := ⟨_, rfl⟩
      rw [← hL] at Hrow2 hLP ⊢
      by_cases h0 : L = 0
      case' neg =>
        have hd0 : decide ((0 : Int) < (L : Int)) = true := decide_eq_true (by omega)
        obtain ⟨q0, q1⟩ := aroundI_range at0 (L : Int) (by omega)
        obtain ⟨k2, hk2⟩ := Int.eq_ofNat_of_zero_le q0
        have hA := Around_any at0 (L : Int) b1 b2 (by omega) (by omega) wr
        rw [hk2] at hA q1
        have HA := Lib.hid hA
        have hk2L : k2 < L := by omega
        obtain ⟨bq, hA7, hbq, hbu, hcell, hfz, hrow3⟩ := own_set Hrow2.out hk2L (.int .u8 ch)
        subst hA7
        rw [List.getElem?_map, List.getElem?_eq_getElem (show k2 < P.length by omega), Option.map_some] at hcell
        obtain ⟨zz, hzz⟩ : ∃ zz, zz = P[k2]'(by omega) := ⟨_, rfl⟩
        rw [← hzz] at hcell
        clear hzz
        have Hrow3 := Lib.hid (own_cast hrow3 rfl (List.map_set (f := Value.int .u8) (l := P) (i := k2) (a := ch)).symm)
        have HB3 := Lib.hid (HB.out.setCell (p := ⟨bq, k2, none⟩) (by show w6.heap.size ≤ bq; omega) (.int .u8 ch))
        have HPPb := Lib.hid (show Byt (P.set k2 ch) from fun x hx => by
          rcases List.mem_or_eq_of_mem_set hx with h | rfl
          · exact HPb.out x h
          · exact hch)
        have HPPl := Lib.hid (show (P.set k2 ch).length = L by simp [hL])
        have HL := Lib.hid hL
        clear hA q0 hk2 hrow3 hL
        go_wp2_with (fail)
        refine HA.out.mono ?_
        rintro e w' ⟨rfl, rfl⟩
        clear HA
        go_wp2_with (fail)
        obtain ⟨PP, hPP⟩ : ∃ PP, PP = P.set k2 ch := ⟨_, rfl⟩
        rw [← hPP] at Hrow3 HPPb HPPl
        obtain ⟨AA, hAA⟩ : ∃ AA : Option Addr, AA = some ⟨bq, 0, none⟩ := ⟨_, rfl⟩
        rw [← hAA] at Hrow3 ⊢
        obtain ⟨WW, hWW⟩ : ∃ WW, WW = wr.setCell ⟨bq, k2, none⟩ (.int .u8 ch) := ⟨_, rfl⟩
        rw [← hWW] at Hrow3 HB3 ⊢
        clear hPP hAA hWW hcell hfz q1 hk2L Hrow2
      case' pos =>
        have hd0 : decide ((0 : Int) < (L : Int)) = false := decide_eq_false (by omega)
        have Hrow3 := Hrow2
        have HB3 := HB
        have HPPb := HPb
        have HPPl := Lib.hid hL.symm
        have HL := Lib.hid hL
        clear hL
        go_wp2_with (fail)
        obtain ⟨PP, hPP⟩ : ∃ PP, PP = P := ⟨_, rfl⟩
        rw [← hPP] at Hrow3 HPPb HPPl
        obtain ⟨AA, hAA⟩ : ∃ AA : Option Addr, AA = A7 := ⟨_, rfl⟩
        rw [← hAA] at Hrow3 ⊢
        obtain ⟨WW, hWW⟩ : ∃ WW, WW = wr := ⟨_, rfl⟩
        rw [← hWW] at Hrow3 HB3 ⊢
        have H0 := Lib.hid h0
        clear hPP hAA hWW Hrow2 h0
      all_goals
        obtain ⟨q5, hq5⟩ : ∃ q5 : Nat, q5 = min bs.length 5 := ⟨_, rfl⟩
        have e5 : mnI (bs.length : Int) 5 = (q5 : Int) := by rw [hq5]; exact mnI_nat _ 5
        have l5 : (bs.take 5).length = q5 := by rw [hq5, List.length_take, Nat.min_comm]
        have hq5l : q5 ≤ bs.length := by omega
        have hq55 : q5 ≤ 5 := by omega
        have hq5c : (q5 : Int) ≤ (c2 : Int) := by omega
        have hq50 : (0 : Int) ≤ (q5 : Int) := by omega
        have hbw : Below WW.heap.size WW WW := Below.refl _ _
        clear hq5
        have HBW : Below w.heap.size w WW := HB6.out.trans (HB3.out.mono hsz6)
        have HBWs := HBW.size
        obtain ⟨Y, hY⟩ : ∃ Y, Y = bs.take 60 := ⟨_, rfl⟩
        obtain ⟨Fr, hFr⟩ : ∃ Fr, Fr = frameB 1 (bs.take 5) := ⟨_, rfl⟩
        have HFew : ∀ W', Below WW.heap.size WW W' → Calls Try.prog 20 #[.slice A2 bs.length c2, .int .i64 60] W' fun e w' => (∃ A c, e = .returned (.slice A Y.length c) ∧ w'.ownsRow W'.heap.size 5 1 (.slice A Y.length c) Y.length (Y.map (.int .u8))) ∧ Below W'.heap.size W' w' ∧ Below WW.heap.size WW w' := fun W' hW' => by
          rw [hY]
          exact (Few_any A2 c2 bs 60 hc2 hl2 (by decide) W' (Hr2.out.below (HBW.trans (hW'.mono HBWs)) (Nat.le_refl _))).mono fun e w' ⟨⟨v, he, ho⟩, hb⟩ => by
            obtain ⟨A, c, rfl⟩ := own_slice' ho
            exact ⟨⟨A, c, he, ho⟩, hb, hW'.trans (hb.mono hW'.size)⟩
        have HFr : ∀ W', Below WW.heap.size WW W' → Calls Try.prog 41 #[.int .i64 1, .slice A2 q5 c2] W' fun e w' => (∃ A c, e = .returned (.slice A Fr.length c) ∧ w'.ownsRow W'.heap.size 5 1 (.slice A Fr.length c) Fr.length (Fr.map (.int .u8))) ∧ Below W'.heap.size W' w' ∧ Below WW.heap.size WW w' := fun W' hW' => by
          have h := RFrame_any 1 (by omega) (by omega) A2 c2 (bs.take 5) (Hbs.out.take 5) (by omega) W' ((Hr2.out.below (HBW.trans (hW'.mono HBWs)) (Nat.le_refl _)).take 5)
          rw [l5, ← hFr] at h
          exact h.mono fun e w' ⟨⟨v, he, ho⟩, hb⟩ => by
            obtain ⟨A, c, rfl⟩ := own_slice' ho
            exact ⟨⟨A, c, he, ho⟩, hb, hW'.trans (hb.mono hW'.size)⟩
        have HFew' := Lib.hid HFew
        have HFr' := Lib.hid HFr
        have HY := Lib.hid hY
        have HFrE := Lib.hid hFr
        have hYl : Y.length ≤ 60 := by rw [hY, List.length_take]; omega
        have hFrl : Fr.length ≤ 45 := by rw [hFr]; have := frameB_length 1 (bs.take 5) (by omega) (by omega) (by omega); omega
        clear HFew HFr hY hFr
        go_region_held3 (fun w' => Below WW.heap.size WW w') (first | assumption | exact (Below.refl _ _).drew | exact Below.alloc (by assumption) (Below.size (by assumption)) _) (first | (go_at_call 20; refine (HFew'.out _ (by assumption)).mono ?_; rintro e wF ⟨⟨AF, cF, rfl, hoF⟩, hbF, hSF⟩) | (go_at_call 41; refine (HFr'.out _ (by assumption)).mono ?_; rintro e wG ⟨⟨AG, cG, rfl, hoG⟩, hbG, hSG⟩))
        all_goals
          have hkD : Kp (fun _ => False) WW WW.drew := ⟨rfl, rfl, rfl, Nat.le_refl _, fun _ _ _ => rfl⟩
          first
            | (have Hx := Lib.hid ((Rd.of_own hoF).below hbG (Nat.le_refl _)); have Hg := Lib.hid (Rd.of_own hoG); have Hs := Lib.hid hSG; obtain ⟨WX, hWX⟩ : ∃ WX, WX = wG := ⟨_, rfl⟩; rw [← hWX] at Hx Hg Hs ⊢)
            | (have Hx := Lib.hid (Rd.of_own hoF); have Hg := Lib.hid ((Rd.of_own hoG).below hbF (Nat.le_refl _)); have Hs := Lib.hid hSF; obtain ⟨WX, hWX⟩ : ∃ WX, WX = wF := ⟨_, rfl⟩; rw [← hWX] at Hx Hg Hs ⊢)
          have hcF := own_cap hoF
          have hcG := own_cap hoG
          clear hkD hoF hoG hbF hbG hSF hSG hWX
          obtain ⟨W0, hW0⟩ : ∃ W0, W0 = WX.alloc (.cells #[.slice AF Y.length cF, .slice AA L c7, .slice AG Fr.length cG] 23) := ⟨_, rfl⟩
          have hB0 : Below WX.heap.size WX W0 := by rw [hW0]; exact (Below.refl _ WX).alloc (Nat.le_refl _) _
          have hnew : W0.heap[WX.heap.size]? = some (.cells #[.slice AF Y.length cF, .slice AA L c7, .slice AG Fr.length cG] 23 (0, 0)) := by rw [hW0]; exact heap_alloc_new WX _
          have hbl0 : WX.heap.size < W0.heap.size := by rw [hW0]; simp
          have HAll : ∀ j : Nat, j < 3 → ∃ (A : Option Addr) (X : List Int) (c : Nat), W0.cell? ⟨WX.heap.size, j, none⟩ = some (.slice A X.length c) ∧ Rd .u8 W0 A X ∧ Byt X ∧ X.length ≤ c ∧ X.length ≤ 1720 := fun j hj => by
            have hcA := own_cap Hrow3.out
            match j, hj with
            | 0, _ => exact ⟨AF, Y, cF, by simp [World.cell?, hnew], Hx.out.below hB0 (Nat.le_refl _), by rw [HY.out]; exact Hbs.out.take 60, hcF, by omega⟩
            | 1, _ => exact ⟨AA, PP, c7, by simp [World.cell?, hnew, HPPl.out], ((Rd.of_own Hrow3.out).below Hs.out (Nat.le_refl _)).below hB0 (Nat.le_refl _), HPPb.out, by rw [HPPl.out]; exact hcA, by rw [HPPl.out]; omega⟩
            | 2, _ => exact ⟨AG, Fr, cG, by simp [World.cell?, hnew], Hg.out.below hB0 (Nat.le_refl _), by rw [HFrE.out]; exact frameB_byt (Hbs.out.take 5), hcG, by omega⟩
          have HAll' := Lib.hid HAll
          have HBw0 := Lib.hid (HBW.trans ((Hs.out.trans (hB0.mono Hs.out.size)).mono HBWs))
          have hsw0 := HBw0.out.size
          rw [← hW0]
          clear HAll hnew hB0 hW0 Hx Hg
          go_wp2
          go_loopw [13] (fun v wr => ∃ i : Nat, v = .int .i64 i ∧ i ≤ 3 ∧ Below W0.heap.size W0 wr) (fun v _ => 3 - (intOf v).toNat)
          case atStart => exact ⟨0, rfl, by omega, Below.refl _ _⟩
          case round =>
            obtain ⟨i, rfl, hi3, hB⟩ := hrel
            have HB9 := Lib.hid hB
            have hsw := hB.size
            clear hB
            by_cases hlt : i < 3
            · have hd : decide ((i : Int) < 3) = true := decide_eq_true (by omega)
              obtain ⟨AX, X, cX, hcell0, hrX, hXb, hcX, hXl⟩ := HAll'.out i hlt
              have hcell := (HB9.out.cell (p := ⟨WX.heap.size, i, none⟩) hbl0).trans hcell0
              have hrX9 := hrX.below HB9.out (Nat.le_refl _)
              obtain ⟨Z, hZ⟩ : ∃ Z, Z = scanB X := ⟨_, rfl⟩
              have hZc : Z.length ≤ X.length := by rw [hZ]; exact scanP_count _ _ _ _
              have hZe : ∀ t ∈ Z, t.1.length ≤ X.length := fun t ht => by rw [hZ] at ht; exact (scanP_ge _ _ _ _ t ht).2
              have hS := Scan_any AX cX X hXb hcX (by omega) wr hrX9
              rw [← hZ] at hS
              obtain ⟨G, hG⟩ : ∃ G, G = Z.map fun t => t.1 := ⟨_, rfl⟩
              obtain ⟨z, hz⟩ : ∃ z, z = G.length := ⟨_, rfl⟩
              have hzZ : Z.length = z := by rw [hz, hG, List.length_map]
              have hGe : ∀ t ∈ G, t.length ≤ 140737488351232 := fun t ht => by
                rw [hG] at ht
                obtain ⟨q, hq, rfl⟩ := List.mem_map.1 ht
                have := hZe q hq; omega
              obtain ⟨E, hE⟩ : ∃ E, E = endOf Z := ⟨_, rfl⟩
              have hzb : z ≤ 1720 := by omega
              have HS := Lib.hid hS
              have HGe := Lib.hid hGe
              have HG := Lib.hid hG
              have Hz := Lib.hid hz
              have HZ := Lib.hid hZ
              have HzZ := Lib.hid hzZ
              have HE := Lib.hid hE
              have HXb := Lib.hid hXb
              have HrX := Lib.hid hrX9
              clear hcell0 hrX hrX9 hS hGe hG hz hZ hzZ hE hXb hZc hZe
              go_wp2_with (fail)
              refine HS.out.mono ?_
              rintro e W10 ⟨⟨v10, rs10, rfl, hrs, hrow, hin⟩, hb10⟩
              have how10 : OwL W10 wr.heap.size 23 5 v10 (rs10.map fun t : Rec => (t.1, t.2.1)) := ⟨by
                rw [List.map_map, List.length_map]; exact hrow, fun t ht => by
                obtain ⟨q, hq, rfl⟩ := List.mem_map.1 ht
                exact ⟨_, hin q hq⟩⟩
              have hl10 : lastAt rs10 = E := by rw [lastAt_end, hrs, HE.out]
              obtain ⟨A10, c10, rfl, hrl10, hc10⟩ := how10.rd
              have hG10 : (rs10.map fun t : Rec => (t.1, t.2.1)).map (fun t => t.2) = G := by
                rw [HG.out, ← hrs, List.map_map, List.map_map]; rfl
              have hn10 : (rs10.map fun t : Rec => (t.1, t.2.1)).length = z := by rw [Hz.out, ← hG10]; simp
              rw [hG10] at hrl10
              rw [hn10] at hc10 ⊢
              rw [hl10]
              have hRS := RScan_any AX cX X HXb.out hcX (by omega) W10 (HrX.out.below hb10 (Nat.le_refl _))
              rw [← HZ.out, HzZ.out, ← HE.out, ← HG.out] at hRS
              have HRS2 := Lib.hid hRS
              have Hrl10 := Lib.hid hrl10
              have HB10 := Lib.hid (HB9.out.trans (hb10.mono hsw))
              have hs10 := HB10.out.size
              have hcell2 := (hb10.cell (p := ⟨WX.heap.size, i, none⟩) (Nat.lt_of_lt_of_le hbl0 hsw)).trans hcell
              clear hRS hrs hrow hin how10 hl10 hG10 hn10 hrl10 hb10 HS HrX hcell
              go_wp2_with (fail)
              refine HRS2.out.mono ?_
              rintro e W11 ⟨⟨A11, c11, rfl, hc11, hrl11⟩, hb11⟩
              have hrl10 := Hrl10.out.below hb11 (Nat.le_refl _)
              have hSL := SameLists_any A10 A11 c10 c11 G G (by rw [← Hz.out]; omega) HGe.out W11 hrl10 hrl11
              rw [show decide (G = G) = true from decide_eq_true rfl, ← Hz.out] at hSL
              have HSL := Lib.hid hSL
              have HB11 := Lib.hid (HB10.out.trans (hb11.mono hs10))
              have hE0 : ((E : Int) != (E : Int)) = false := by simp
              clear hSL hrl10 hrl11 hb11 HRS2 Hrl10 HB10 hcell2
              go_wp2_with (fail)
              refine HSL.out.mono ?_
              rintro e W12 ⟨rfl, m12, hm12⟩
              have hB12 : Below W0.heap.size W0 W12 := by rw [hm12]; have h := HB11.out; exact ⟨h.os, h.tape, h.output, h.size, h.block⟩
              have HB12 := Lib.hid hB12
              clear hB12 hm12 HSL HB11
              go_wp2_with (fail)
              exact ⟨⟨i + 1, by go_num, by omega, HB12.out⟩, by simp [intOf]; omega⟩
            · obtain rfl : i = 3 := by omega
              have HL := Lib.hid (lives25_any wr)
              go_wp2_with (fail)
              refine HL.out.mono ?_
              rintro e W14 ⟨rfl, hb14⟩
              have HB14 := Lib.hid (HBw0.out.trans ((HB9.out.trans (hb14.mono hsw)).mono hsw0))
              clear hb14 HL
              go_wp2_with (fail)
              go_ret
              exact ⟨rfl, HB14.out⟩
end Go.Proofs.Ytajdkcpcgfipbaa
