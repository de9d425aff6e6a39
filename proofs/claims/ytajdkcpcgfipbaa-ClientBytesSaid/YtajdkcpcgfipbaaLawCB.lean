/- ClientBytes: the walk. -/
import Derived.Test.YtajdkcpcgfipbaaCliX
import Derived.Deep.RegionHeld3
import Derived.Deep.RegionLaw
import Derived.Deep.DeepCutAuto
namespace Go.Proofs.Ytajdkcpcgfipbaa
open Go.RowKit Go.Wm

theorem bel_alloc {w W : World} (h : Below w.heap.size w W) (o : Obj) : Below w.heap.size w (W.alloc o) := h.alloc h.size o
theorem bel_drew {w W : World} (h : Below w.heap.size w W) : Below w.heap.size w W.drew := h.drew
theorem bel_call {w W W' : World} (h : Below w.heap.size w W) (k : Below W.heap.size W W') : Below w.heap.size w W' := h.trans (k.mono h.size)

theorem lt_alloc (w : World) (o : Obj) : w.heap.size < (w.alloc o).heap.size := by simp
theorem bel_app {w Wp W8 : World} {g8 : Nat} {ad : Addr} (h : Below w.heap.size w Wp) (hk : Kp (fun k => k = g8) Wp W8) (hg : (∃ a0, some ad = some a0 ∧ g8 = a0.block) ∨ g8 = Wp.heap.size) (ha : w.heap.size ≤ ad.block) : Below w.heap.size w W8 := by
  refine h.trans (hk.below h.size (fun k e => ?_))
  rcases hg with ⟨a0, ea, e2⟩ | e2
  · cases ea; rw [e, e2]; exact ha
  · rw [e, e2]; exact h.size
theorem rd_app {w Wp W8 : World} {g8 : Nat} {ad : Addr} {A : Option Addr} {xs : List Int} (hr : Rd .u8 w A xs) (h : Below w.heap.size w Wp) (hk : Kp (fun k => k = g8) Wp W8) (hg : (∃ a0, some ad = some a0 ∧ g8 = a0.block) ∨ g8 = Wp.heap.size) (ha : w.heap.size ≤ ad.block) : Rd .u8 W8 A xs :=
  hr.below (bel_app h hk hg ha) (Nat.le_refl _)

set_option maxRecDepth 100000 in
set_option maxHeartbeats 4000000 in
theorem bytes_walk (id number key at0 by0 : Int) (A2 A4 : Option Addr) (c2 c4 : Nat) (bs rs : List Int) (hid : I64 id) (hnu : I64 number) (hat : I64 at0) (hby : 0 ≤ by0 ∧ by0 < 256) (hbs : Byt bs) (hc2 : bs.length ≤ c2) (hl2 : bs.length ≤ 9223372036854775807) (hrs : Byt rs) (hc4 : rs.length ≤ c4) (hl4 : rs.length ≤ 9223372036854775807) (w : World) (hr2 : Rd .u8 w A2 bs) (hr4 : Rd .u8 w A4 rs) :
    Calls Try.prog 10 #[.int .i64 id, .int .i64 number, .slice A2 bs.length c2, .int .u64 key, .slice A4 rs.length c4, .int .i64 at0, .int .u8 by0] w fun e w' => e = .returned (.bool true) ∧ Below w.heap.size w w' := by
  have hidi := (i64_iff _).1 hid
  have hnui := (i64_iff _).1 hnu
  have hati := (i64_iff _).1 hat
  have Hr2 := Lib.hid hr2
  have Hr4 := Lib.hid hr4
  have Hbs := Lib.hid hbs
  have Hrs := Lib.hid hrs
  have Hid := Lib.hid hid
  have Hnu := Lib.hid hnu
  obtain ⟨hby1, hby2⟩ := hby
  clear hr2 hr4 hbs hrs hid hnu hat
  go_enter Try.func10, Try.ntmps10
  go_wp2_with (fail)
  refine (Few_any A2 c2 bs 30 hc2 hl2 (by decide) w Hr2.out).mono ?_
  rintro e W1 ⟨⟨v1, rfl, ho1⟩, hb1⟩
  obtain ⟨f, hf⟩ : ∃ f, f = bs.take 30 := ⟨_, rfl⟩
  rw [← hf] at ho1
  have hf30 : f.length ≤ 30 := by rw [hf, List.length_take]; omega
  have hfb : Byt f := by rw [hf]; exact Hbs.out.take 30
  obtain ⟨Af, cf, rfl⟩ := own_slice' ho1
  have Hv1 := Lib.hid (Rd.of_own ho1)
  have Hfb := Lib.hid hfb
  have HB1 := Lib.hid hb1
  clear ho1 hf hfb hb1 Hr2 Hbs
  go_wp2_with (fail)
  refine (Tag_any key id number Af cf f Hfb.out (by omega) W1 Hv1.out).mono ?_
  rintro e W2 ⟨rfl, hb2⟩
  obtain ⟨tg, htg⟩ : ∃ tg, tg = tagI key id number f := ⟨_, rfl⟩
  have htr := tagI_range key id number f
  rw [← htg] at htr ⊢
  obtain ⟨tn, htn⟩ : ∃ tn : Nat, tg = tn := ⟨tg.toNat, (Int.toNat_of_nonneg htr.1).symm⟩
  have hte : tg.toNat = tn := by omega
  have htl : tn < 18446744073709551616 := by omega
  have Htg := Lib.hid htg
  have Htn := Lib.hid htn
  have Hte := Lib.hid hte
  have Htr := Lib.hid htr
  obtain ⟨r, hr⟩ : ∃ r : Rq, r = ⟨id, number, f, tg⟩ := ⟨_, rfl⟩
  obtain ⟨W3, hW3⟩ : ∃ W3, W3 = W2.alloc (.cells #[.int .i64 id, .int .i64 number, .slice Af f.length cf, .int .u64 tg] 32) := ⟨_, rfl⟩
  obtain ⟨q, hq⟩ : ∃ q, q = W2.heap.size := ⟨_, rfl⟩
  have hB3 : Below w.heap.size w W3 := by rw [hW3]; exact bel_alloc (bel_call HB1.out hb2) _
  have hB13 : Below W1.heap.size W1 W3 := by rw [hW3]; exact bel_alloc hb2 _
  have hx3 : W3.heap[q]? = some (.cells #[.int .i64 id, .int .i64 number, .slice Af f.length cf, .int .u64 tg] 32 (0, 0)) := by rw [hW3, hq]; exact heap_alloc_new W2 _
  have hql : q < W3.heap.size := (Array.getElem?_eq_some_iff.1 hx3).1
  have Hr := Lib.hid hr
  have HW3 := Lib.hid hW3
  have Hq := Lib.hid hq
  have HB3 := Lib.hid hB3
  have Hx3 := Lib.hid hx3
  have Hv3 := Lib.hid (Hv1.out.below hB13 (Nat.le_refl _))
  have q0 : W3.cell? ⟨q, 0, none⟩ = some (.int .i64 id) := by simp [World.cell?, hx3]
  have q1 : W3.cell? ⟨q, 1, none⟩ = some (.int .i64 number) := by simp [World.cell?, hx3]
  have q2 : W3.cell? ⟨q, 2, none⟩ = some (.slice Af f.length cf) := by simp [World.cell?, hx3]
  have q3 : W3.cell? ⟨q, 3, none⟩ = some (.int .u64 tg) := by simp [World.cell?, hx3]
  clear htg htn hte htr hr hW3 hq hB3 hB13 hx3 hb2 HB1 Hv1
  go_wp2_with (fail)
  rw [← HW3.out, ← Hq.out]
  have HE := Encode_any r Af cf (by rw [Hr.out]; exact Hid.out) (by rw [Hr.out]; exact Hnu.out) (by rw [Hr.out]; exact Htr.out) (by rw [Hr.out]; exact Hfb.out) (by rw [Hr.out]; show f.length ≤ _; omega) W3 (by rw [Hr.out]; exact Hv3.out)
  obtain ⟨cd, hcd⟩ : ∃ cd, cd = encB r := ⟨_, rfl⟩
  have hcl := encB_length r (by rw [Hr.out]; exact Hid.out) (by rw [Hr.out]; exact Hnu.out) (by rw [Hr.out]; exact Htr.out) (by rw [Hr.out]; show f.length ≤ _; omega)
  have hcb := encB_byt r (by rw [Hr.out]; exact Hfb.out)
  have hdk := decOk_enc r (by rw [Hr.out]; exact Hid.out) (by rw [Hr.out]; exact Hnu.out) (by rw [Hr.out]; exact Htr.out) (by rw [Hr.out]; show f.length ≤ _; omega)
  have hde := dec_enc r (by rw [Hr.out]; exact Hid.out) (by rw [Hr.out]; exact Hnu.out) (by rw [Hr.out]; exact Htr.out) (by rw [Hr.out]; show f.length ≤ _; omega)
  rw [← hcd] at HE hcl hcb hdk hde
  have hrb : r.b.length ≤ 30 := by rw [Hr.out]; exact hf30
  obtain ⟨hc0, hc70⟩ := hcl
  have hc70 : cd.length ≤ 70 := by omega
  have HE := Lib.hid HE
  have Hcd := Lib.hid hcd
  have Hcb := Lib.hid hcb
  have Hdk := Lib.hid hdk
  have Hde := Lib.hid hde
  clear hcd hcb hdk hde hrb
  rw [Hr.out] at HE
  refine HE.out.mono ?_
  rintro e W4 ⟨⟨v4, rfl, ho4⟩, hb4⟩
  obtain ⟨Ac, cc, rfl⟩ := own_slice' ho4
  obtain ⟨bc, oc, rfl⟩ : ∃ bc oc, Ac = some ⟨bc, oc, none⟩ := by
    rcases Rd.of_own ho4 with h | ⟨b, o, h, _⟩
    · rw [h] at hc0; simp at hc0
    · exact ⟨b, o, h⟩
  have Hv4 := Lib.hid (Rd.of_own ho4)
  have Hvf4 := Lib.hid (Hv3.out.below hb4 (Nat.le_refl _))
  have hcc : cd.length ≤ cc := own_cap ho4
  have Hb34 := Lib.hid hb4
  have HT := Lib.hid (RTag_any key id number Af cf f Hfb.out (by omega) W4 Hvf4.out)
  rw [← Htg.out] at HT
  clear ho4 hb4 HE
  go_wp2_with (fail)
  refine HT.out.mono ?_
  rintro e W5 ⟨rfl, hb5⟩
  have hb35 := bel_call Hb34.out hb5
  have p0 : W5.cell? ⟨q, 0, none⟩ = some (.int .i64 id) := (hb35.cell (p := ⟨q, 0, none⟩) hql).trans q0
  have p1 : W5.cell? ⟨q, 1, none⟩ = some (.int .i64 number) := (hb35.cell (p := ⟨q, 1, none⟩) hql).trans q1
  have p2 : W5.cell? ⟨q, 2, none⟩ = some (.slice Af f.length cf) := (hb35.cell (p := ⟨q, 2, none⟩) hql).trans q2
  have p3 : W5.cell? ⟨q, 3, none⟩ = some (.int .u64 tg) := (hb35.cell (p := ⟨q, 3, none⟩) hql).trans q3
  have Hb35 := Lib.hid hb35
  have Hb5 := Lib.hid hb5
  clear q0 q1 q2 q3 hb35 hb5 HT Hb34
  go_wp2_with (fail)
  refine (request37_any id number tg Af f.length cf W5).mono ?_
  rintro e W6 ⟨rfl, hb6⟩
  have Hb46 := Lib.hid (bel_call Hb5.out hb6)
  have Hb36 := Lib.hid (bel_call Hb35.out hb6)
  have HRE := REncode_any r Af cf (by rw [Hr.out]; exact Hid.out) (by rw [Hr.out]; exact Hnu.out) (by rw [Hr.out]; exact Htr.out) (by rw [Hr.out]; show f.length ≤ _; omega) W6 (by rw [Hr.out]; exact Hvf4.out.below Hb46.out (Nat.le_refl _))
  rw [← Hcd.out] at HRE
  rw [Hr.out] at HRE
  have HRE := Lib.hid HRE
  clear hb6 p0 p1 p2 p3
  go_wp2_with (fail)
  refine HRE.out.mono ?_
  rintro e W7 ⟨⟨A7, c7, rfl, hv7⟩, hb7⟩
  have Hb47 := Lib.hid (bel_call Hb46.out hb7)
  have Hb37 := Lib.hid (bel_call Hb36.out hb7)
  have Hv7 := Lib.hid hv7
  have HSB := Lib.hid (SameBytes_any _ A7 cc c7 cd cd (by omega) W7 (Hv4.out.below Hb47.out (Nat.le_refl _)) hv7)
  rw [show decide (cd = cd) = true from decide_eq_true rfl] at HSB
  clear hb7 hv7 HRE
  go_wp2_with (fail)
  refine HSB.out.mono ?_
  rintro e W8 ⟨rfl, n8, hn8⟩
  have hb8 : Below W7.heap.size W7 W8 := by rw [hn8]; exact drewN_below W7 n8
  have Hb48 := Lib.hid (bel_call Hb47.out hb8)
  have Hb38 := Lib.hid (bel_call Hb37.out hb8)
  have hne : ((cd.length : Int) == 0) = false := by simp; intro e; rw [e] at hc0; simp at hc0
  clear hb8 hn8 HSB Hb35 Hb36 Hb37 Hb46 Hb47
  go_wp2_with (fail)
  obtain ⟨W9, hW9⟩ : ∃ W9, W9 = W8.alloc (.cells #[.slice none 0 0] 69) := ⟨_, rfl⟩
  obtain ⟨gw, hgw⟩ : ∃ gw, gw = W8.heap.size := ⟨_, rfl⟩
  have hw9 : Wr gw W9 gw none [] := by rw [hgw, hW9]; exact Wr.new W8
  have Hb39 := Lib.hid (show Below W3.heap.size W3 W9 by rw [hW9]; exact bel_alloc Hb38.out _)
  have Hb49 := Lib.hid (show Below W4.heap.size W4 W9 by rw [hW9]; exact bel_alloc Hb48.out _)
  have hg4 : W4.heap.size ≤ gw := by rw [hgw]; exact Hb48.out.size
  have hg3 : W3.heap.size ≤ gw := by rw [hgw]; exact Hb38.out.size
  have hg9 : gw < W9.heap.size := by rw [hgw, hW9]; simp
  rw [← hW9, ← hgw]
  have ⟨il1, il2⟩ : (intW id).length ≤ 10 ∧ (intW number).length ≤ 10 := ⟨intW_length id hidi.1 hidi.2, intW_length number hnui.1 hnui.2⟩
  have rl := rawW_length f (by omega)
  clear hW9 hgw hne
  refine (WInt_any gw gw none [] id hidi.1 hidi.2 (by simp) W9 hw9).mono ?_
  rintro e W10 ⟨rfl, ⟨r10, hw10, hn10⟩, hk10⟩
  simp only [List.nil_append] at hw10
  have Hb910 := Lib.hid (hw9.step hk10)
  have Hw10 := Lib.hid hw10
  clear hw9 hw10 hn10 hk10
  go_wp2_with (fail)
  refine (WInt_any gw gw r10 (intW id) number hnui.1 hnui.2 (by omega) W10 Hw10.out).mono ?_
  rintro e W11 ⟨rfl, ⟨r11, hw11, hn11⟩, hk11⟩
  have Hb911 := Lib.hid (Hb910.out.trans (Hw10.out.step hk11))
  have Hw11 := Lib.hid hw11
  clear hw11 hn11 hk11 Hw10 Hb910
  go_wp2_with (fail)
  refine (WRaw_any gw gw r11 (intW id ++ intW number) Af cf f Hfb.out (by omega) (by simp; omega) W11 Hw11.out (Hvf4.out.below (Hb49.out.trans (Hb911.out.mono hg4)) (Nat.le_refl _))).mono ?_
  rintro e W12 ⟨rfl, ⟨r12, hw12, hn12⟩, hk12⟩
  have Hb912 := Lib.hid (Hb911.out.trans (Hw11.out.step hk12))
  have Hw12 := Lib.hid hw12
  clear hw12 hn12 hk12 Hw11 Hb911
  go_wp2_with (fail)
  rw [Htn.out]
  refine (WUint_any gw gw r12 (intW id ++ intW number ++ rawW f) tn htl (by simp; omega) W12 Hw12.out).mono ?_
  rintro e W13 ⟨rfl, ⟨r13, hw13, hn13⟩, hk13⟩
  have hb913 := Hb912.out.trans (Hw12.out.step hk13)
  have hg13 : gw < W13.heap.size := Nat.lt_of_lt_of_le hg9 hb913.size
  have Hb313 := Lib.hid (Hb39.out.trans (hb913.mono hg3))
  have Hb413 := Lib.hid (Hb49.out.trans (hb913.mono hg4))
  have Hw13 := Lib.hid (show Wr gw W13 gw r13 cd by rw [Hcd.out, encB, Hr.out]; simp only [Hte.out]; exact hw13)
  have HF := Few_any _ cc cd cd.length hcc (by omega) (by omega) W13 (Hv4.out.below Hb413.out (Nat.le_refl _))
  rw [List.take_length] at HF
  have HF := Lib.hid HF
  clear hw13 hn13 hk13 Hw12 Hb912 hb913 il1 il2 rl
  go_wp2_with (fail)
  refine HF.out.mono ?_
  rintro e W14 ⟨⟨v14, rfl, ho14⟩, hb14⟩
  obtain ⟨Ax, cx, rfl⟩ := own_slice' ho14
  have Hb314 := Lib.hid (bel_call Hb313.out hb14)
  have Hb414 := Lib.hid (bel_call Hb413.out hb14)
  have Hw14 := Lib.hid (Hw13.out.kp (Kp.of_below (S := fun _ => False) hb14) (fun e => e) (fun _ _ e => e))
  obtain ⟨k0, hk0⟩ : ∃ k0, k0 = aroundI at0 cd.length := ⟨_, rfl⟩
  obtain ⟨k1, k2⟩ := aroundI_range at0 cd.length (by omega)
  have HA := Lib.hid (Around_any at0 cd.length hati.1 hati.2 (by omega) (by omega) W14)
  rw [← hk0] at HA k1 k2
  obtain ⟨k, rfl⟩ : ∃ k : Nat, k0 = k := ⟨k0.toNat, (Int.toNat_of_nonneg k1).symm⟩
  have hkl : k < cd.length := by omega
  obtain ⟨bx, hbx1, hbx2, hbx3, hbx4, hbx5, hbx6⟩ := own_set ho14 (i := k) (by omega) (.int .u8 by0)
  subst hbx1
  rw [List.getElem?_map, List.getElem?_eq_getElem hkl] at hbx4
  simp only [Option.map_some] at hbx4
  have hgbx : gw ≠ bx := by omega
  have hrbx : ∀ b, r13 = some b → b ≠ bx := fun b eb => by
    obtain ⟨_, _, v, _, hrow, rfl⟩ := Hw13.out
    have := (hrow.lt b eb).2
    omega
  have Hgbx := Lib.hid (And.intro hgbx hrbx)
  have hbc : bc < W4.heap.size := by
    rcases Hv4.out with h | ⟨b, o, h, hb, _⟩
    · rw [h] at hc0; simp at hc0
    · cases h; exact hb
  have hW4b : W4.heap.size ≤ bx := Nat.le_trans Hb413.out.size hbx2
  have hW3b : W3.heap.size ≤ bx := Nat.le_trans Hb313.out.size hbx2
  clear hgbx hrbx
  have Hbx6 := Lib.hid hbx6
  have Hbx4 := Lib.hid hbx4
  have Hbx5 := Lib.hid hbx5
  clear hk0 k1 k2 ho14 hb14 Hb313 Hb413 Hw13 HF hbx4 hbx5 hbx6
  have hx4 := Hbx4.out
  have hx5 := Hbx5.out
  go_wp2_with (fail)
  refine HA.out.mono ?_
  rintro e W15 ⟨rfl, rfl⟩
  go_wp2_with (fail)
  clear hx4 hx5
  obtain ⟨W16, hW16⟩ : ∃ W16, W16 = W14.setCell ⟨bx, k, none⟩ (.int .u8 by0) := ⟨_, rfl⟩
  have hk16 : Kp (fun j => j = bx) W14 W16 := by rw [hW16]; exact (Kp.refl (fun j => j = bx) W14).set (p := ⟨bx, k, none⟩) (fun _ => rfl) _
  have hb16 : ∀ n, n ≤ bx → n ≤ W14.heap.size → Below n W14 W16 := fun n h1 h2 => hk16.below h2 (fun j e => by omega)
  have Hw16 := Lib.hid (Hw14.out.kp hk16 Hgbx.out.1 Hgbx.out.2)
  have Hb316 := Lib.hid (Hb314.out.trans (hb16 _ hW3b Hb314.out.size))
  have Hb416 := Lib.hid (Hb414.out.trans (hb16 _ hW4b Hb414.out.size))
  have hox : Rd .u8 W16 (some ⟨bx, 0, none⟩) (cd.set k by0) := by
    have := Hbx6.out
    rw [← hW16, ← List.map_set, ← (List.length_set : (cd.set k by0).length = cd.length)] at this
    exact Rd.of_own this
  have Hox := Lib.hid hox
  have HbyS := Lib.hid (show Byt (cd.set k by0) from fun y hy => by
    rcases List.mem_or_eq_of_mem_set hy with h | h
    · exact Hcb.out y h
    · rw [h]; exact ⟨hby1, hby2⟩)
  rw [← hW16]
  clear hW16 hk16 hb16 hox Hw14 Hb314 Hb414 HA
  obtain ⟨m, hm⟩ : ∃ m, cd.length = m + 1 := ⟨cd.length - 1, by omega⟩
  have hsub : IntKind.i64.wrap ((cd.length : Int) - 1) = (m : Int) := by rw [IntWalk.i64_in _ (by omega)]; omega
  have hmc : m ≤ cc := by omega
  have hml : m ≤ 69 := by omega
  obtain ⟨i0, hi, hz0, hz1, hz2⟩ := info_parts info_u8
  have hr16 : Rd .u8 W16 A4 rs := Hr4.out.below (HB3.out.trans (Hb316.out.mono HB3.out.size)) (Nat.le_refl _)
  have hv16 : Rd .u8 W16 (some ⟨bc, oc, none⟩) cd := Hv4.out.below Hb416.out (Nat.le_refl _)
  obtain ⟨r40, h40⟩ : ∃ r40, r40 = rs.take 40 := ⟨_, rfl⟩
  have hr40 : r40.length ≤ 40 := by rw [h40, List.length_take]; omega
  have H40 := Lib.hid (show Byt r40 by rw [h40]; exact Hrs.out.take 40)
  have HF1 : ∀ W', Below W16.heap.size W16 W' → Calls Try.prog 20 #[.slice A4 rs.length c4, .int .i64 40] W' fun e w' => (∃ A' c', e = .returned (.slice A' r40.length c') ∧ Rd .u8 w' A' r40 ∧ ∀ a, A' = some a → W'.heap.size ≤ a.block ∧ a.block < w'.heap.size) ∧ Below W'.heap.size W' w' := fun W' hB => by
    rw [h40]
    refine (Few_any A4 c4 rs 40 hc4 hl4 (by decide) W' (hr16.below hB (Nat.le_refl _))).mono ?_
    rintro e w' ⟨⟨v, rfl, ho⟩, hb⟩
    obtain ⟨A', c', rfl⟩ := own_slice' ho
    exact ⟨⟨A', c', rfl, Rd.of_own ho, fun a ea => by subst ea; exact ho.lt a.block rfl⟩, hb⟩
  have HF2 : ∀ W', Below W16.heap.size W16 W' → Calls Try.prog 20 #[.slice (some ⟨bc, oc, none⟩) cd.length cc, .int .i64 cd.length] W' fun e w' => (∃ ad c', e = .returned (.slice (some ad) cd.length c') ∧ Arr w' 5 1 (some ad) cd.length c' (cd.map (.int .u8)) ∧ W'.heap.size ≤ ad.block ∧ W16.heap.size ≤ ad.block) ∧ Below W'.heap.size W' w' := fun W' hB => by
    have HF := Few_any _ cc cd cd.length hcc (by omega) (by omega) W' (hv16.below hB (Nat.le_refl _))
    rw [List.take_length] at HF
    refine HF.mono ?_
    rintro e w' ⟨⟨v, rfl, ho⟩, hb⟩
    obtain ⟨A', c', rfl⟩ := own_slice' ho
    obtain ⟨ad, rfl⟩ := Rd.some (Rd.of_own ho) (by intro e; rw [e] at hc0; simp at hc0)
    exact ⟨⟨ad, c', rfl, Arr.of_own ho, (ho.lt ad.block rfl).1, Nat.le_trans hB.size (ho.lt ad.block rfl).1⟩, hb⟩
  have HF1 := Lib.hid HF1
  have HF2 := Lib.hid HF2
  have Hm := Lib.hid hm
  have Hr16 := Lib.hid hr16
  have Hv16 := Lib.hid hv16
  clear hm hr16 hv16 h40
  go_cut [21] (fun s21 wx => ∃ gl g8 o8 A1 c1 A3 c3 c8, s21 = .slice (some ⟨gl, 0, none⟩) 5 5 ∧ wx.heap[gl]? = some (.cells #[.slice (some ⟨bc, oc, none⟩) cd.length cc, .slice A1 r40.length c1, .slice (some ⟨bx, 0, none⟩) cd.length cx, .slice A3 m c3, .slice (some ⟨g8, o8, none⟩) (cd.length + 1) c8] 23 (0, 0)) ∧ Rd .u8 wx A1 r40 ∧ Rd .u8 wx A3 (cd.take m) ∧ Rd .u8 wx (some ⟨g8, o8, none⟩) (cd ++ [by0]) ∧ Below W16.heap.size W16 wx)
  case first =>
    have hm0 : (0 : Int) ≤ (m : Int) := by omega
    have hmI : (m : Int) ≤ (cc : Int) := by omega
    go_region_held3 (fun W' => Below W16.heap.size W16 W') (first | assumption | ((repeat (first | with_reducible exact Below.refl _ _ | assumption | with_reducible refine bel_alloc ?_ _ | with_reducible refine bel_drew ?_ | refine bel_call ?_ (by assumption))); done)) (first
      | (refine step_append_arr rfl _ _ 23 rfl 5 i0 (.int .u8 0) 1 1 Try.underlying23 hi hz0 hz1 hz2 rfl (by decide) _ _ _ _ rfl (Arr.bel haB (by ((repeat (first | with_reducible exact Below.refl _ _ | assumption | with_reducible refine bel_alloc ?_ _ | with_reducible refine bel_drew ?_ | refine bel_call ?_ (by assumption))); done))) _ 1 _ [.int .u8 by0] rfl (by simp) (by first | exact World.news_of_block (heap_alloc_new _ _) | exact World.news_of_block ((hbB.block _ (lt_alloc _ _)).trans (heap_alloc_new _ _)) | exact World.news_of_block ((hbB.block _ (Nat.lt_of_lt_of_le (lt_alloc _ _) hbA.size)).trans ((hbA.block _ (lt_alloc _ _)).trans (heap_alloc_new _ _)))) (by simp [Value.oneCell']) (by unfold maxLen; omega) (by omega) (by decide) ?_; intro g8 o8 c8 W8' har hkp hg8; have hb8 : Below W16.heap.size W16 W8' := bel_app (by ((repeat (first | with_reducible exact Below.refl _ _ | assumption | with_reducible refine bel_alloc ?_ _ | with_reducible refine bel_drew ?_ | refine bel_call ?_ (by assumption))); done)) hkp hg8 hg3; have hx8 := rd_app hr1 (by repeat (first | with_reducible exact Below.refl _ _ | with_reducible refine bel_alloc ?_ _ | with_reducible refine bel_drew ?_ | with_reducible refine bel_call ?_ hbB)) hkp hg8 hgA)
      | (have _q := hbA; go_at_call 20; refine (HF2.out _ (by assumption)).mono ?_; rintro e wB ⟨⟨ad, cB, rfl, haB, hg2, hg3⟩, hbB⟩; have hgA := Nat.le_trans (Below.size (B := wA.heap.size) (w := wA) (by repeat (first | with_reducible exact Below.refl _ _ | with_reducible refine bel_alloc ?_ _ | with_reducible refine bel_drew ?_))) hg2)
      | (go_at_call 20; refine (HF1.out _ (by assumption)).mono ?_; rintro e wA ⟨⟨A1, c1, rfl, hr1, hg1⟩, hbA⟩))
    all_goals
      go_wp2_with (fail)
      go_meet
      have hbf := bel_alloc hb8 (.cells #[.slice (some ⟨bc, oc, none⟩) cd.length cc, .slice A1 r40.length c1, .slice (some ⟨bx, 0, none⟩) cd.length cx, .slice (some ⟨bc, oc, none⟩) m cc, .slice (some ⟨g8, o8, none⟩) (cd.length + 1) c8] 23)
      have har' := Rd.of_arr (xs := cd ++ [by0]) (by rw [List.map_append]; exact har)
      exact ⟨_, g8, o8, A1, c1, some ⟨bc, oc, none⟩, cc, c8, rfl, heap_alloc_new _ _, hx8.alloc _, (Hv16.out.below hbf (Nat.le_refl _)).take m, har'.alloc _, hbf⟩
  case rest =>
    obtain ⟨gl, g8, o8, A1, c1, A3, c3, c8, rfl, hgl, hr1, hr3, hr8, hbc16⟩ := hcut
    have hb4c := Hb416.out.trans (hbc16.mono Hb416.out.size)
    have hb3c := Hb316.out.trans (hbc16.mono Hb316.out.size)
    have HL : ∀ j : Nat, j < 5 → ∃ xs A c, wc.cell? ⟨gl, j, none⟩ = some (.slice A xs.length c) ∧ Rd .u8 wc A xs ∧ Byt xs ∧ xs.length ≤ 100 ∧ (j = 0 → decOk xs = true) := fun j hj => by
      match j, hj with
      | 0, _ => exact ⟨cd, _, cc, by simp [World.cell?, hgl], Hv16.out.below hbc16 (Nat.le_refl _), Hcb.out, by omega, fun _ => Hdk.out⟩
      | 1, _ => exact ⟨r40, A1, c1, by simp [World.cell?, hgl], hr1, H40.out, by omega, fun e => by cases e⟩
      | 2, _ => exact ⟨cd.set k by0, some ⟨bx, 0, none⟩, cx, by simp [World.cell?, hgl], Hox.out.below hbc16 (Nat.le_refl _), HbyS.out, by rw [List.length_set]; omega, fun e => by cases e⟩
      | 3, _ => exact ⟨cd.take m, A3, c3, by have := Hm.out; simp [World.cell?, hgl]; omega, hr3, Hcb.out.take m, by rw [List.length_take]; omega, fun e => by cases e⟩
      | 4, _ => exact ⟨cd ++ [by0], some ⟨g8, o8, none⟩, c8, by simp [World.cell?, hgl], hr8, Hcb.out.append (Byt.nil.cons ⟨hby1, hby2⟩), by simp; omega, fun e => by cases e⟩
    have hw16 := Hw16.out.kp (Kp.of_below (S := fun _ => False) hbc16) (fun e => e) (fun _ _ e => e)
    have hxc := (hb3c.block q hql).trans Hx3.out
    have hvf := Hv3.out.below hb3c (Nat.le_refl _)
    have hvc := Hv16.out.below hbc16 (Nat.le_refl _)
    have hbwc := HB3.out.trans (hb3c.mono HB3.out.size)
    have hgll := (Array.getElem?_eq_some_iff.1 hgl).1
    have HL := Lib.hid HL
    have Hwc := Lib.hid hw16
    have Hxc := Lib.hid hxc
    have Hvf := Lib.hid hvf
    have Hvc := Lib.hid hvc
    have Hbwc := Lib.hid hbwc
    clear hgl hr1 hr3 hr8 hbc16 hb4c hb3c hw16 hxc hvf hvc hbwc hsub HF1 HF2 Hr16 Hv16 Hw16 Hox Hb316 Hb416 Hx3 Hv3 Hbx4 Hbx5 Hbx6 hbx2 hbx3 Hgbx Hr4
    go_wp2_with (fail)
    go_loopw [22, 23, 24] (fun i _ _ wr => ∃ k : Nat, i = .int .i64 k ∧ k ≤ 5 ∧ Below wc.heap.size wc wr) (fun i _ _ _ => 5 - (intOf i).toNat)
    case atStart => exact ⟨0, rfl, by omega, Below.refl _ _⟩
    case round =>
      obtain ⟨j, rfl, hj, hbr⟩ := hrel
      have Hbr := Lib.hid hbr
      by_cases hj5 : j < 5
      · obtain ⟨xs, A, c, h1, h2, h3, h4, h5⟩ := HL.out j hj5
        have y1 := (hbr.cell (p := ⟨gl, j, none⟩) hgll).trans h1
        have H2 := Lib.hid (h2.below hbr (Nat.le_refl _))
        have H3 := Lib.hid h3
        have H5 := Lib.hid h5
        have HD := Lib.hid (Decode_any xs A c h3 (by omega) wr (h2.below hbr (Nat.le_refl _)))
        clear hbr h1 h2 h3 h5
        go_wp2_with (fail)
        refine HD.out.mono ?_
        rintro e wd ⟨⟨Ad, cq, rfl, hvd⟩, hbd⟩
        obtain ⟨d, hd⟩ : ∃ d, d = decR xs := ⟨_, rfl⟩
        rw [← hd] at hvd ⊢
        obtain ⟨wm, hwm⟩ : ∃ wm, wm = wd.alloc (.cells #[.int .i64 d.c, .int .i64 d.n, .slice Ad d.b.length cq, .int .u64 d.t] 32) := ⟨_, rfl⟩
        obtain ⟨bm, hbm⟩ : ∃ bm, bm = wd.heap.size := ⟨_, rfl⟩
        have hxm : wm.heap[bm]? = some (.cells #[.int .i64 d.c, .int .i64 d.n, .slice Ad d.b.length cq, .int .u64 d.t] 32 (0, 0)) := by rw [hwm, hbm]; exact heap_alloc_new wd _
        have hbrm : Below wr.heap.size wr wm := by rw [hwm]; exact bel_alloc hbd _
        have hvm : ByS wm (.slice Ad d.b.length cq) d.b := by rw [hwm]; exact hvd.below ((Below.refl _ _).alloc (Nat.le_refl _) _)
        have Hbm := Lib.hid (bel_call Hbr.out hbrm)
        have Hbrm := Lib.hid hbrm
        have z0 : wm.cell? ⟨bm, 0, none⟩ = some (.int .i64 d.c) := by simp [World.cell?, hxm]
        have z1 : wm.cell? ⟨bm, 1, none⟩ = some (.int .i64 d.n) := by simp [World.cell?, hxm]
        have z2 : wm.cell? ⟨bm, 2, none⟩ = some (.slice Ad d.b.length cq) := by simp [World.cell?, hxm]
        have z3 : wm.cell? ⟨bm, 3, none⟩ = some (.int .u64 d.t) := by simp [World.cell?, hxm]
        have y2 := (hbrm.cell (p := ⟨gl, j, none⟩) (Nat.lt_of_lt_of_le hgll Hbr.out.size)).trans y1
        have Hvm := Lib.hid hvm
        have Hd := Lib.hid hd
        have Hwm := Lib.hid hwm
        have Hbmm := Lib.hid hbm
        have Hxm := Lib.hid hxm
        clear HD hd hvd hwm hbm hxm hbrm hvm hbd y1
        by_cases hok : decOk xs = true
        · have hde0 : decE xs = 0 := by rw [decE, if_pos hok]
          rw [hde0]
          have hdx : d = (decX xs).1 := by rw [Hd.out, decR, if_pos hok]
          have hen : encB d = xs := by
            rw [hdx]
            have := hok
            unfold decOk at this
            simp only [Bool.and_eq_true, decide_eq_true_eq] at this
            exact this.2
          have hwf := decX_wf H3.out
          rw [← hdx] at hwf
          obtain ⟨wf1, wf2, wf3, wf4, wf5, _⟩ := hwf
          have Hen := Lib.hid hen
          have Wf := Lib.hid (And.intro wf1 (And.intro wf2 (And.intro wf3 wf5)))
          clear hde0 hdx hen wf1 wf2 wf3 wf5 hok
          go_wp2_with (fail)
          rw [← Hwm.out, ← Hbmm.out]
          have HS := Lib.hid (show ∀ W', Below wm.heap.size wm W' → Below wm.heap.size wm W' ∧ W'.cell? ⟨bm, 0, none⟩ = some (.int .i64 d.c) ∧ W'.cell? ⟨bm, 1, none⟩ = some (.int .i64 d.n) ∧ W'.cell? ⟨bm, 2, none⟩ = some (.slice Ad d.b.length cq) ∧ W'.cell? ⟨bm, 3, none⟩ = some (.int .u64 d.t) ∧ W'.cell? ⟨gl, j, none⟩ = some (.slice A xs.length c) from fun W' hB => by
            have hbl := (Array.getElem?_eq_some_iff.1 Hxm.out).1
            have hgl2 : gl < wm.heap.size := Nat.lt_of_lt_of_le hgll Hbm.out.size
            exact ⟨hB, (hB.cell (p := ⟨bm, 0, none⟩) hbl).trans z0, (hB.cell (p := ⟨bm, 1, none⟩) hbl).trans z1, (hB.cell (p := ⟨bm, 2, none⟩) hbl).trans z2, (hB.cell (p := ⟨bm, 3, none⟩) hbl).trans z3, (hB.cell (p := ⟨gl, j, none⟩) hgl2).trans y2⟩)
          have HEn := Lib.hid (show ∀ W', Below wm.heap.size wm W' → Calls Try.prog 62 #[.agg #[.int .i64 d.c, .int .i64 d.n, .slice Ad d.b.length cq, .int .u64 d.t]] W' fun e w' => (∃ A' c', e = .returned (.slice A' xs.length c') ∧ Rd .u8 w' A' xs) ∧ Below W'.heap.size W' w' from fun W' hB => by
            refine (Encode_any d Ad cq Wf.out.1 Wf.out.2.1 Wf.out.2.2.2 Wf.out.2.2.1 (by omega) W' ((Hvm.out.below hB).toRd)).mono ?_
            rintro e w' ⟨⟨v, rfl, ho⟩, hb⟩
            rw [Hen.out] at ho
            obtain ⟨A', c', rfl⟩ := own_slice' ho
            exact ⟨⟨A', c', rfl, Rd.of_own ho⟩, hb⟩)
          have HSB := Lib.hid (show ∀ W' A' c', Below wm.heap.size wm W' → Rd .u8 W' A' xs → Calls Try.prog 39 #[.slice A' xs.length c', .slice A xs.length c] W' fun e w' => e = .returned (.bool true) ∧ Below W'.heap.size W' w' from fun W' A' c' hB hr => by
            refine (SameBytes_any A' A c' c xs xs (by omega) W' hr (H2.out.below (bel_call Hbrm.out hB) (Nat.le_refl _))).mono ?_
            rintro e w' ⟨rfl, n, rfl⟩
            exact ⟨by rw [decide_eq_true rfl], drewN_below _ _⟩)
          clear z0 z1 z2 z3 y2
          go_region_held3 (fun W' => Below wm.heap.size wm W' ∧ W'.cell? ⟨bm, 0, none⟩ = some (.int .i64 d.c) ∧ W'.cell? ⟨bm, 1, none⟩ = some (.int .i64 d.n) ∧ W'.cell? ⟨bm, 2, none⟩ = some (.slice Ad d.b.length cq) ∧ W'.cell? ⟨bm, 3, none⟩ = some (.int .u64 d.t) ∧ W'.cell? ⟨gl, j, none⟩ = some (.slice A xs.length c)) (exact HS.out _ (by ((repeat (first | with_reducible exact Below.refl _ _ | assumption | with_reducible refine bel_alloc ?_ _ | with_reducible refine bel_drew ?_ | refine bel_call ?_ (by assumption))); done))) (first
            | (go_at_call 62; refine (HEn.out _ (And.left (by assumption))).mono ?_; rintro e wE ⟨⟨AE, cE, rfl, hrE⟩, hbE⟩)
            | (go_at_call 39; refine (HSB.out _ _ _ (And.left (by assumption)) hrE).mono ?_; rintro e wS ⟨rfl, hbS⟩))
          have hBm := Hbm.out
          have hBf : Below wc.heap.size wc wS := by ((repeat (first | with_reducible exact Below.refl _ _ | assumption | with_reducible refine bel_alloc ?_ _ | with_reducible refine bel_drew ?_ | refine bel_call ?_ (by assumption))); done)
          have HBf := Lib.hid hBf
          clear hBf hBm
          go_wp2_with (fail)
          go_roundw
          case rel => exact ⟨j + 1, by go_num, by omega, HBf.out⟩
          case measure => simp [intOf]; omega
        · have hde0 : decE xs = 2 := by rw [decE, if_neg hok]
          rw [hde0]
          have hdx : d = ⟨0, 0, [], 0⟩ := by rw [Hd.out, decR, if_neg hok]
          have hj0 : ((j : Int) == 0) = false := by
            simp
            intro e
            exact hok (H5.out e)
          clear hde0 hok
          subst hdx
          have hvd := Hvm.out.toRd
          have HQ := Lib.hid (request37_any 0 0 0 Ad 0 cq wm)
          have HSm := Lib.hid (show ∀ W', Below wm.heap.size wm W' → Calls Try.prog 24 #[.agg #[.int .i64 0, .int .i64 0, .slice Ad 0 cq, .int .u64 0], .agg #[.int .i64 0, .int .i64 0, .slice none 0 0, .int .u64 0]] W' fun e w' => e = .returned (.bool true) ∧ Below W'.heap.size W' w' from fun W' hB =>
            Same37_any ⟨0, 0, [], 0⟩ ⟨0, 0, [], 0⟩ Ad none cq 0 (by simp) W' (hvd.below hB (Nat.le_refl _)) (.inl rfl))
          clear hvd z0 z1 z2 z3 y2
          have z0 : wm.cell? ⟨bm, 0, none⟩ = some (.int .i64 0) := by simp [World.cell?, Hxm.out]
          have z1 : wm.cell? ⟨bm, 1, none⟩ = some (.int .i64 0) := by simp [World.cell?, Hxm.out]
          have z2 : wm.cell? ⟨bm, 2, none⟩ = some (.slice Ad 0 cq) := by simp [World.cell?, Hxm.out]
          have z3 : wm.cell? ⟨bm, 3, none⟩ = some (.int .u64 0) := by simp [World.cell?, Hxm.out]
          go_wp2_with (fail)
          have HwmE := Hwm.out
          simp only [List.length_nil] at HwmE
          rw [← HwmE, ← Hbmm.out]
          clear HwmE
          refine HQ.out.mono ?_
          rintro e wq ⟨rfl, hbq⟩
          have Hbq := Lib.hid hbq
          clear hbq z0 z1 z2 z3
          go_wp2_with (fail)
          refine (HSm.out wq Hbq.out).mono ?_
          rintro e ws ⟨rfl, hbs⟩
          have Hbs := Lib.hid (bel_call Hbm.out (bel_call Hbq.out hbs))
          clear hbs
          go_wp2_with (fail)
          go_quiet (fail)
          go_wp2
          go_roundw
          case rel => exact ⟨j + 1, by go_num, by omega, Hbs.out.trans ((drewN_below ws _).mono Hbs.out.size)⟩
          case measure => simp [intOf]; omega
      · have hj5' : j = 5 := by omega
        subst hj5'
        clear hj hj5 HL
        have hdr : decR cd = r := by rw [decR, if_pos Hdk.out, Hde.out]
        have hdE : decE cd = 0 := by rw [decE, if_pos Hdk.out]
        have HD := Decode_any cd (some ⟨bc, oc, none⟩) cc Hcb.out (by omega) wr (Hvc.out.below hbr (Nat.le_refl _))
        rw [hdr, hdE, Hr.out] at HD
        have HD := Lib.hid HD
        clear hdr hdE hbr
        go_wp2_with (fail)
        refine HD.out.mono ?_
        rintro e wd ⟨⟨Ad, cq, rfl, hvd⟩, hbd⟩
        obtain ⟨wm, hwm⟩ : ∃ wm, wm = wd.alloc (.cells #[.int .i64 id, .int .i64 number, .slice Ad f.length cq, .int .u64 tg] 32) := ⟨_, rfl⟩
        obtain ⟨bm, hbm⟩ : ∃ bm, bm = wd.heap.size := ⟨_, rfl⟩
        have hxm : wm.heap[bm]? = some (.cells #[.int .i64 id, .int .i64 number, .slice Ad f.length cq, .int .u64 tg] 32 (0, 0)) := by rw [hwm, hbm]; exact heap_alloc_new wd _
        have hbm2 : Below wc.heap.size wc wm := by rw [hwm]; exact bel_alloc (bel_call Hbr.out hbd) _
        have hvm : ByS wm (.slice Ad f.length cq) f := by rw [hwm]; exact hvd.below ((Below.refl _ _).alloc (Nat.le_refl _) _)
        have z0 : wm.cell? ⟨bm, 0, none⟩ = some (.int .i64 id) := by simp [World.cell?, hxm]
        have z1 : wm.cell? ⟨bm, 1, none⟩ = some (.int .i64 number) := by simp [World.cell?, hxm]
        have z2 : wm.cell? ⟨bm, 2, none⟩ = some (.slice Ad f.length cq) := by simp [World.cell?, hxm]
        have z3 : wm.cell? ⟨bm, 3, none⟩ = some (.int .u64 tg) := by simp [World.cell?, hxm]
        have hxq := (hbm2.block q (Array.getElem?_eq_some_iff.1 Hxc.out).1).trans Hxc.out
        have x0 : wm.cell? ⟨q, 0, none⟩ = some (.int .i64 id) := by simp [World.cell?, hxq]
        have x1 : wm.cell? ⟨q, 1, none⟩ = some (.int .i64 number) := by simp [World.cell?, hxq]
        have x2 : wm.cell? ⟨q, 2, none⟩ = some (.slice Af f.length cf) := by simp [World.cell?, hxq]
        have x3 : wm.cell? ⟨q, 3, none⟩ = some (.int .u64 tg) := by simp [World.cell?, hxq]
        have hbl := (Array.getElem?_eq_some_iff.1 hxm).1
        have hql2 := (Array.getElem?_eq_some_iff.1 hxq).1
        have HS := Lib.hid (show ∀ W', Below wm.heap.size wm W' → Below wm.heap.size wm W' ∧ W'.cell? ⟨bm, 0, none⟩ = some (.int .i64 id) ∧ W'.cell? ⟨bm, 1, none⟩ = some (.int .i64 number) ∧ W'.cell? ⟨bm, 2, none⟩ = some (.slice Ad f.length cq) ∧ W'.cell? ⟨bm, 3, none⟩ = some (.int .u64 tg) ∧ W'.cell? ⟨q, 0, none⟩ = some (.int .i64 id) ∧ W'.cell? ⟨q, 1, none⟩ = some (.int .i64 number) ∧ W'.cell? ⟨q, 2, none⟩ = some (.slice Af f.length cf) ∧ W'.cell? ⟨q, 3, none⟩ = some (.int .u64 tg) from fun W' hB =>
          ⟨hB, (hB.cell (p := ⟨bm, 0, none⟩) hbl).trans z0, (hB.cell (p := ⟨bm, 1, none⟩) hbl).trans z1, (hB.cell (p := ⟨bm, 2, none⟩) hbl).trans z2, (hB.cell (p := ⟨bm, 3, none⟩) hbl).trans z3, (hB.cell (p := ⟨q, 0, none⟩) hql2).trans x0, (hB.cell (p := ⟨q, 1, none⟩) hql2).trans x1, (hB.cell (p := ⟨q, 2, none⟩) hql2).trans x2, (hB.cell (p := ⟨q, 3, none⟩) hql2).trans x3⟩)
        have HSm := Lib.hid (show ∀ W', Below wm.heap.size wm W' → Calls Try.prog 24 #[.agg #[.int .i64 id, .int .i64 number, .slice Ad f.length cq, .int .u64 tg], .agg #[.int .i64 id, .int .i64 number, .slice Af f.length cf, .int .u64 tg]] W' fun e w' => e = .returned (.bool true) ∧ Below W'.heap.size W' w' from fun W' hB => by
          have := Same37_any ⟨id, number, f, tg⟩ ⟨id, number, f, tg⟩ Ad Af cq cf (by simp only; omega) W' (hvm.toRd.below hB (Nat.le_refl _)) (Hvf.out.below (bel_call hbm2 hB) (Nat.le_refl _))
          rw [(sameRq_iff _ _).2 ⟨rfl, rfl, rfl, rfl⟩] at this
          exact this)
        have HDo := Lib.hid (show ∀ W', Below wm.heap.size wm W' → Calls Try.prog 49 #[.pointer (some ⟨gw, 0, none⟩)] W' fun e w' => (∃ A' c', e = .returned (.slice A' cd.length c') ∧ Rd .u8 w' A' cd) ∧ Below W'.heap.size W' w' from fun W' hB => by
          refine (WDone_any gw gw r13 cd (by omega) W' (Hwc.out.kp (Kp.of_below (S := fun _ => False) (bel_call hbm2 hB)) (fun e => e) (fun _ _ e => e))).mono ?_
          rintro e w' ⟨⟨v, rfl, ho⟩, hb⟩
          obtain ⟨A', c', rfl⟩ := own_slice' ho
          exact ⟨⟨A', c', rfl, Rd.of_own ho⟩, hb⟩)
        have HSB := Lib.hid (show ∀ W' A' c', Below wm.heap.size wm W' → Rd .u8 W' A' cd → Calls Try.prog 39 #[.slice A' cd.length c', .slice (some ⟨bc, oc, none⟩) cd.length cc] W' fun e w' => e = .returned (.bool true) ∧ Below W'.heap.size W' w' from fun W' A' c' hB hr => by
          refine (SameBytes_any A' _ c' cc cd cd (by omega) W' hr (Hvc.out.below (bel_call hbm2 hB) (Nat.le_refl _))).mono ?_
          rintro e w' ⟨rfl, n, rfl⟩
          exact ⟨by rw [decide_eq_true rfl], drewN_below _ _⟩)
        have Hwm := Lib.hid hwm
        have Hbm := Lib.hid hbm
        have Hfin := Lib.hid (bel_call Hbwc.out hbm2)
        clear hwm hbm hxm hbm2 hvm z0 z1 z2 z3 hxq x0 x1 x2 x3 hvd hbd
        go_wp2_with (fail)
        rw [← Hwm.out, ← Hbm.out]
        clear HD Hwm
        go_cut [14] (fun s14 wx => s14 = .bool true ∧ Below wm.heap.size wm wx)
        case first =>
          go_region_held3 (fun W' => Below wm.heap.size wm W' ∧ W'.cell? ⟨bm, 0, none⟩ = some (.int .i64 id) ∧ W'.cell? ⟨bm, 1, none⟩ = some (.int .i64 number) ∧ W'.cell? ⟨bm, 2, none⟩ = some (.slice Ad f.length cq) ∧ W'.cell? ⟨bm, 3, none⟩ = some (.int .u64 tg) ∧ W'.cell? ⟨q, 0, none⟩ = some (.int .i64 id) ∧ W'.cell? ⟨q, 1, none⟩ = some (.int .i64 number) ∧ W'.cell? ⟨q, 2, none⟩ = some (.slice Af f.length cf) ∧ W'.cell? ⟨q, 3, none⟩ = some (.int .u64 tg)) (exact HS.out _ (by ((repeat (first | with_reducible exact Below.refl _ _ | assumption | with_reducible refine bel_alloc ?_ _ | with_reducible refine bel_drew ?_ | refine bel_call ?_ (by assumption))); done))) (first
            | (go_at_call 23; refine (request37_any _ _ _ _ _ _ _).mono ?_; rintro e wE ⟨rfl, hbE⟩)
            | (go_at_call 24; refine (HSm.out _ (And.left (by assumption))).mono ?_; rintro e wF ⟨rfl, hbF⟩)
            | (go_at_call 49; refine (HDo.out _ (And.left (by assumption))).mono ?_; rintro e wG ⟨⟨AG, cG, rfl, hrG⟩, hbG⟩)
            | (go_at_call 39; refine (HSB.out _ _ _ (And.left (by assumption)) hrG).mono ?_; rintro e wH ⟨rfl, hbH⟩)
            | (go_at_call 28; refine (lives37_any _).mono ?_; rintro e wI ⟨rfl, hbI⟩))
          all_goals
            go_wp2_with (fail)
            go_meet
            exact ⟨rfl, by ((repeat (first | with_reducible exact Below.refl _ _ | assumption | with_reducible refine bel_alloc ?_ _ | with_reducible refine bel_drew ?_ | refine bel_call ?_ (by assumption))); done)⟩
        case rest =>
          obtain ⟨rfl, hbx⟩ := hcut
          have HBx := Lib.hid (bel_call Hfin.out hbx)
          clear hbx
          go_wp2_with (fail)
          go_ret
          exact ⟨rfl, HBx.out⟩
end Go.Proofs.Ytajdkcpcgfipbaa
