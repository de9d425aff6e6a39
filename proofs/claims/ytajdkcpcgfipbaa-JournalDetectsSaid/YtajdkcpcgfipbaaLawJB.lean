/- JournalDetects: the walk. -/
import Derived.Test.YtajdkcpcgfipbaaLawJA
import Derived.Test.YtajdkcpcgfipbaaWireE
namespace Go.Proofs.Ytajdkcpcgfipbaa
open Go.RowKit Go.Wm
attribute [local go_sem] min_int max_int

set_option maxRecDepth 100000 in
set_option maxHeartbeats 2000000 in
theorem detects_walk (A : Option Addr) (c : Nat) (xs : List Int) (bit : Int) (hx : Byt xs) (hc : xs.length ≤ c) (hl : xs.length ≤ 9223372036854775807) (b1 : -9223372036854775808 ≤ bit) (b2 : bit ≤ 9223372036854775807) (w : World) (hr : Rd .u8 w A xs) :
    Calls Try.prog 7 #[.slice A xs.length c, .int .i64 bit] w fun e w' => e = .returned (.bool true) ∧ Below w.heap.size w w' := by
  obtain ⟨y, hy⟩ : ∃ y, y = xs.take 200 := ⟨_, rfl⟩
  have hyb : Byt y := by rw [hy]; exact hx.take 200
  have hyl : y.length ≤ 200 := by rw [hy, List.length_take]; omega
  have hFew := Few_any A c xs 200 hc hl (by decide) w hr
  rw [← hy] at hFew
  have HFew := Lib.hid hFew
  clear hFew hy hr hx hc
  obtain ⟨F, hF⟩ : ∃ F, F = frameB 0 y := ⟨_, rfl⟩
  obtain ⟨C, hC⟩ : ∃ C, C = coreB 0 y := ⟨_, rfl⟩
  obtain ⟨V, hV⟩ : ∃ V, V = varN C.length := ⟨_, rfl⟩
  have hFl : F.length ≤ y.length + 40 := by rw [hF]; exact frameB_length 0 y (by omega) (by omega) (by omega)
  have hCl : C.length ≤ y.length + 20 := by rw [hC]; exact coreB_length 0 y (by omega) (by omega) (by omega)
  have hCb : Byt C := by rw [hC]; exact coreB_byt hyb
  have hFb : Byt F := by rw [hF]; exact frameB_byt hyb
  have hVl : V.length ≤ 10 := by rw [hV]; exact varN_length C.length (by omega)
  have hFe : F = V ++ (C ++ varN (hashN recLbl C)) := by rw [hF, hV, hC]; unfold frameB rawW; simp only [List.append_assoc]
  have hCp : 1 ≤ C.length := by rw [hC]; unfold coreB intW; rw [List.length_append]; have := varN_pos (zigN 0); omega
  have hVF : V.length + 1 ≤ F.length := by rw [hFe]; simp only [List.length_append]; omega
  have HF := Lib.hid hF
  have HC := Lib.hid hC
  have HV := Lib.hid hV
  have HFe := Lib.hid hFe
  have Hyb := Lib.hid hyb
  have HCb := Lib.hid hCb
  have HFb := Lib.hid hFb
  clear hF hC hV hFe hyb hCb hFb
  go_enter Try.func7, Try.ntmps7
  go_wp2_with (fail)
  refine HFew.out.mono ?_
  rintro e W1 ⟨⟨v1, rfl, ho1⟩, hb1⟩
  obtain ⟨A1, c1, rfl⟩ := own_slice' ho1
  have hc1 := own_cap ho1
  have HFr := Lib.hid (Frame_any 0 (by omega) (by omega) A1 c1 y Hyb.out (by omega) W1 (Rd.of_own ho1))
  have Ho1 := Lib.hid (Rd.of_own ho1)
  have Hb1 := Lib.hid hb1
  have hs1 := hb1.size
  clear ho1 hb1 HFew
  go_wp2_with (fail)
  refine HFr.out.mono ?_
  rintro e W2 ⟨⟨v2, rfl, ho2⟩, hb2⟩
  rw [← HF.out] at ho2
  obtain ⟨A2, c2, rfl⟩ := own_slice' ho2
  have hc2 := own_cap ho2
  have Hf2 := Lib.hid (Rd.of_own ho2)
  have Hy2 := Lib.hid (Ho1.out.below hb2 (Nat.le_refl _))
  have HB2 := Lib.hid (Hb1.out.trans (hb2.mono hs1))
  have hs2 := hb2.size
  clear ho2 hb2 HFr Ho1 Hb1
  have HI := Lib.hid (WInt_any W2.heap.size W2.heap.size none [] 0 (by omega) (by omega) (by decide) _ (Wr.new W2))
  go_wp2_with (fail)
  refine HI.out.mono ?_
  rintro e W3 ⟨rfl, ⟨r3, hw3, hn3⟩, hk3⟩
  have hB3 : Below W2.heap.size W2 W3 := ((Below.refl _ W2).alloc (Nat.le_refl _) _).trans ((Wr.new W2).step hk3)
  have HR := Lib.hid (WRaw_any W2.heap.size W2.heap.size r3 _ A1 c1 y Hyb.out (by omega) (by have := intW_length 0 (by omega) (by omega); rw [List.nil_append]; omega) W3 hw3 (Hy2.out.below hB3 (Nat.le_refl _)))
  have Hw3 := Lib.hid hw3
  have HB3 := Lib.hid hB3
  clear hw3 hn3 hk3 hB3 HI
  go_wp2_with (fail)
  refine HR.out.mono ?_
  rintro e W4 ⟨rfl, ⟨r4, hw4, hn4⟩, hk4⟩
  have hB4 : Below W2.heap.size W2 W4 := HB3.out.trans (Hw3.out.step hk4)
  have e4 : [] ++ intW 0 ++ rawW y = C := by rw [HC.out, List.nil_append]; rfl
  rw [e4] at hw4
  have HD := Lib.hid (WDone_any W2.heap.size W2.heap.size r4 C (by omega) W4 hw4)
  have HB4 := Lib.hid hB4
  clear hw4 hn4 hk4 hB4 e4 HR Hw3 HB3
  go_wp2_with (fail)
  refine HD.out.mono ?_
  rintro e W5 ⟨⟨v5, rfl, ho5⟩, hb5⟩
  obtain ⟨A5, c5, rfl⟩ := own_slice' ho5
  have hc5 := own_cap ho5
  have hB5 : Below W2.heap.size W2 W5 := HB4.out.trans (hb5.mono HB4.out.size)
  have HC5 := Lib.hid (Rd.of_own ho5)
  have Hf5 := Lib.hid (Hf2.out.below hB5 (Nat.le_refl _))
  have HB5 := Lib.hid (HB2.out.trans (hB5.mono (by omega)))
  have hs5 := HB5.out.size
  clear ho5 hb5 hB5 HD HB4 Hf2 HB2 Hy2
  have HU := Lib.hid (WUint_any W5.heap.size W5.heap.size none [] C.length (by omega) (by decide) _ (Wr.new W5))
  go_wp2_with (fail)
  refine HU.out.mono ?_
  rintro e W6 ⟨rfl, ⟨r6, hw6, hn6⟩, hk6⟩
  have hB6 : Below W5.heap.size W5 W6 := ((Below.refl _ W5).alloc (Nat.le_refl _) _).trans ((Wr.new W5).step hk6)
  rw [List.nil_append, ← HV.out] at hw6
  have HD := Lib.hid (WDone_any W5.heap.size W5.heap.size r6 V (by omega) W6 hw6)
  have Hw6 := Lib.hid hw6
  have HB6 := Lib.hid hB6
  clear hw6 hn6 hk6 hB6 HU
  go_wp2_with (fail)
  refine HD.out.mono ?_
  rintro e W7 ⟨⟨v7, rfl, ho7⟩, hb7⟩
  obtain ⟨A7, c7, rfl⟩ := own_slice' ho7
  have hB7 : Below W5.heap.size W5 W7 := HB6.out.trans (hb7.mono HB6.out.size)
  have hw7 := Hw6.out.kp (Kp.of_below (S := fun _ => False) hb7) (fun e => e) (fun _ _ e => e)
  have HR := Lib.hid (WRaw_any W5.heap.size W5.heap.size r6 V A5 c5 C HCb.out (by omega) (by omega) W7 hw7 (HC5.out.below hB7 (Nat.le_refl _)))
  have Hw7 := Lib.hid hw7
  have HB7 := Lib.hid hB7
  clear hw7 ho7 hb7 hB7 HD Hw6 HB6
  go_wp2_with (fail)
  refine HR.out.mono ?_
  rintro e W8 ⟨rfl, ⟨r8, hw8, hn8⟩, hk8⟩
  have HB8 := Lib.hid (HB7.out.trans (Hw7.out.step hk8))
  clear hw8 hn8 hk8 HR Hw7 HB7
  -- the bit
  have hle : decide ((F.length : Int) ≤ (V.length : Int)) = false := decide_eq_false (by omega)
  go_wp2_with (fail)
  obtain ⟨m, hm⟩ : ∃ m : Int, m = 8 * ((F.length : Int) - (V.length : Int)) := ⟨_, rfl⟩
  obtain ⟨h0, h1⟩ := aroundI_range bit m (by omega)
  obtain ⟨k, hk⟩ := Int.eq_ofNat_of_zero_le h0
  have hA := Around_any bit m b1 b2 (by omega) (by omega) W8
  rw [hk] at hA h1
  clear h0 hk
  rw [← hm]
  refine hA.mono ?_
  rintro e W9 ⟨rfl, rfl⟩
  clear hA
  have hw := Few_any A2 c2 F F.length hc2 (by omega) (by omega) W8 (Hf5.out.below HB8.out (Nat.le_refl _))
  rw [List.take_of_length_le (Nat.le_refl _)] at hw
  have Hw := Lib.hid hw
  have Hm := Lib.hid hm
  have Hk1 := Lib.hid (show k / 8 + V.length < F.length by omega)
  clear hm h1 hw hle
  go_wp2_with (fail)
  refine Hw.out.mono ?_
  rintro e W9 ⟨⟨v9, rfl, ho9⟩, hb9⟩
  obtain ⟨A9, c9, rfl⟩ := own_slice' ho9
  have hpF : V.length + k / 8 < F.length := by have := Hk1.out; omega
  have hc9 := own_cap ho9
  have Hset := Lib.hid (fun u => own_set ho9 hpF u)
  obtain ⟨b, hA9, hbl, hbu, hcell, hfz, _⟩ := own_set ho9 hpF (.int .u8 0)
  subst hA9
  rw [List.getElem?_map, List.getElem?_eq_getElem hpF, Option.map_some] at hcell
  obtain ⟨z, hz⟩ : ∃ z, z = F[V.length + k / 8] := ⟨_, rfl⟩
  rw [← hz] at hcell
  have HB9 := Lib.hid (HB8.out.trans (hb9.mono HB8.out.size))
  have hs8 := HB8.out.size
  have Hz := Lib.hid hz
  clear ho9 hb9 Hw HB8 hz
  go_wp2_with (fail)
  obtain ⟨z', hz'⟩ : ∃ z', z' = bits .xor .u8 z ((2 : Int) ^ (k % 8) % 256) := ⟨_, rfl⟩
  rw [← hz']
  have hzb : 0 ≤ z ∧ z < 256 := by rw [Hz.out]; exact HFb.out _ (List.getElem_mem _)
  obtain ⟨zne, zb⟩ := flip8' k z hzb
  rw [← hz'] at zne zb
  clear hz' hcell hfz hzb
  obtain ⟨p1, p2⟩ := set_parts F (V.length + k / 8) hpF z'
  rw [← Hz.out] at p1
  have hTb : Byt (F.set (V.length + k / 8) z') := by
    rw [p2]
    exact (HFb.out.take _).append (Byt.cons zb (HFb.out.drop _))
  have hT0 : scanB (F.set (V.length + k / 8) z') = [] := by
    rw [p2]
    refine detect y _ _ z z' Hyb.out (by omega) (by rw [← HF.out]; exact p1) ?_ zne (by rw [← p2]; exact hTb)
    rw [← HC.out, ← HV.out, List.length_take]; omega
  obtain ⟨_, hA9, _, _, _, _, ho10⟩ := Hset.out (.int .u8 z')
  cases hA9
  rw [← List.map_set] at ho10
  have hB10 : Below W5.heap.size W5 (W9.setCell ⟨b, V.length + k / 8, none⟩ (.int .u8 z')) := HB9.out.setCell (by show W5.heap.size ≤ b; omega) _
  obtain ⟨W10, hW10⟩ : ∃ W10, W10 = W9.setCell ⟨b, V.length + k / 8, none⟩ (.int .u8 z') := ⟨_, rfl⟩
  rw [← hW10] at ho10 hB10 ⊢
  obtain ⟨T, hT⟩ : ∃ T, T = F.set (V.length + k / 8) z' := ⟨_, rfl⟩
  rw [← hT] at ho10 hT0 hTb
  have hTl : T.length = F.length := by rw [hT]; simp
  have hS := Scan_any (some ⟨b, 0, none⟩) c9 T hTb (by omega) (by omega) W10 (Rd.of_own ho10)
  rw [hT0, hTl] at hS
  have HS := Lib.hid hS
  have HB10 := Lib.hid hB10
  have hs10 := hB10.size
  clear hS hB10 ho10 hT0 hTb hTl hT p1 p2 zne zb hW10 Hset HB9 Hz
  refine HS.out.mono ?_
  rintro e W11 ⟨⟨v11, ys, rfl, hys, hrow, _⟩, hb11⟩
  obtain rfl : ys = [] := by cases ys with | nil => rfl | cons t ts => simp at hys
  obtain ⟨A11, c11, rfl⟩ := own_slice' hrow
  have la : lastAt [] = 0 := rfl
  rw [la]
  have hB11 := HB10.out.trans (hb11.mono hs10)
  have hS := Scan_any A2 c2 F HFb.out hc2 (by omega) W11 (Hf5.out.below hB11 (Nat.le_refl _))
  rw [HF.out, scanB_one y (by omega), ← HF.out] at hS
  have HS2 := Lib.hid hS
  have HB11 := Lib.hid hB11
  have hs11 := hB11.size
  clear hS hB11 hb11 hys hrow la HS HB10 hs10
  simp only [List.length_nil]
  go_wp2_with (fail)
  refine HS2.out.mono ?_
  rintro e W12 ⟨⟨v12, ys, rfl, hys, hrow, _⟩, hb12⟩
  obtain ⟨y1, rfl, hy1⟩ : ∃ y1, ys = [y1] ∧ y1.2 = (y, F.length) := by
    cases ys with
    | nil => simp at hys
    | cons t ts => cases ts with | nil => exact ⟨t, rfl, by simpa using hys⟩ | cons _ _ => simp at hys
  obtain ⟨A12, c12, rfl⟩ := own_slice' hrow
  have la : lastAt [y1] = F.length := by simp [lastAt, hy1]
  rw [la]
  have hB12 := HB11.out.trans (hb12.mono hs11)
  have HRd := Lib.hid (Read_any A2 c2 F (by omega) W12 (Hf5.out.below hB12 (Nat.le_refl _)))
  have HB12 := Lib.hid hB12
  have hs12 := hB12.size
  clear hB12 hb12 hys hrow hy1 la HS2 HB11 hs11
  simp only [List.length_cons, List.length_nil, Nat.zero_add]
  go_wp2_with (fail)
  refine HRd.out.mono ?_
  rintro e W13 ⟨⟨g, rfl, hg13, hr13⟩, hb13⟩
  have hB13 := HB12.out.trans (hb13.mono hs12)
  have eF : F = rawW C ++ varN (hashN recLbl C) := by rw [HF.out, HC.out]; rfl
  have hR := RawR_ok W13.heap.size g F HFb.out (by omega) W13 hr13
  have hrF : rRaw F = (C, varN (hashN recLbl C), 0) := by rw [eF]; exact rRaw_rawW _ _ (by omega)
  rw [hrF] at hR
  have HR := Lib.hid hR
  have HB13 := Lib.hid hB13
  have Hr13 := Lib.hid hr13
  clear hB13 hb13 hr13 eF hR hrF HRd HB12
  go_wp2_with (fail)
  refine HR.out.mono ?_
  rintro e W14 ⟨⟨v14, rfl, ho14⟩, hr14, hk14⟩
  obtain ⟨A14, c14, rfl⟩ := own_slice' ho14
  have hB14 := HB13.out.trans (Hr13.out.step hk14 _ (by omega))
  have hgl := Hr13.out.lt
  have hvl := varN_length (hashN recLbl C) (hashN_lt _ _)
  have hU := UintR_ok W13.heap.size g (varN (hashN recLbl C)) (varN_byt _) (by omega) W14 hr14
  have hrU := rU_varN0 (hashN recLbl C) (hashN_lt _ _) []
  rw [List.append_nil] at hrU
  rw [hrU] at hU
  have HU := Lib.hid hU
  have HB14 := Lib.hid hB14
  have Hr14 := Lib.hid hr14
  have Hi14 := Lib.hid (Rd.of_own ho14)
  have Ho14 := Lib.hid ho14
  clear hU hB14 hr14 ho14 hk14 hrU HR Hr13
  go_wp2_with (fail)
  refine HU.out.mono ?_
  rintro e W15 ⟨rfl, hr15, hk15⟩
  have hB15 := HB14.out.trans (Hr14.out.step hk15 _ (by omega))
  have hE := EndR_any W13.heap.size g [] 0 (by decide) W15 hr15
  rw [show (if (0 : Int) = 0 ∧ 0 < ([] : List Int).length then (2 : Int) else 0) = 0 from by decide] at hE
  have HE := Lib.hid hE
  clear hE
  have hi15 : Rd .u8 W15 A14 C := Rd.of_own (own_kp Ho14.out hk15 (fun b e q => by have := (Ho14.out.lt b e).1; omega))
  have hSB := SameBytes_any A14 A5 c14 c5 C C (by omega) W15 hi15 (HC5.out.below hB15 (Nat.le_refl _))
  rw [show decide (C = C) = true from decide_eq_true rfl] at hSB
  have HSB := Lib.hid hSB
  have HB15 := Lib.hid hB15
  clear hB15 hr15 hk15 hi15 hSB hvl HU Hr14 Hi14 Ho14 HB14
  go_wp2_with (fail)
  refine HE.out.mono ?_
  rintro e W16 ⟨rfl, rfl⟩
  clear HE
  go_wp2_with (fail)
  refine HSB.out.mono ?_
  rintro e W16 ⟨rfl, n16, hn16⟩
  have hB16 : Below W5.heap.size W5 W16 := by rw [hn16]; have h := HB15.out; exact ⟨h.os, h.tape, h.output, h.size, h.block⟩
  have hlb : strI ⟨#[114, 101, 99, 111, 114, 100]⟩ = recLbl := by decide
  have hH := Bytes_any ⟨#[114, 101, 99, 111, 114, 100]⟩ (by decide) A5 c5 C HCb.out (by omega) W16 (HC5.out.below hB16 (Nat.le_refl _))
  rw [hlb, hashN_eq] at hH
  have HH := Lib.hid hH
  have HB16 := Lib.hid hB16
  clear hB16 hlb hH hn16 HSB HB15
  go_wp2_with (fail)
  refine HH.out.mono ?_
  rintro e W17 ⟨rfl, hb17⟩
  have hB17 := HB16.out.trans (hb17.mono HB16.out.size)
  have HL := Lib.hid (lives25_any W17)
  have HB17 := Lib.hid hB17
  clear hB17 hb17 HH HB16
  go_wp2_with (fail)
  refine HL.out.mono ?_
  rintro e W18 ⟨rfl, hb18⟩
  have hB18 := HB17.out.trans (hb18.mono HB17.out.size)
  have HB18 := Lib.hid (HB5.out.trans (hB18.mono hs5))
  clear hB18 hb18 HL HB17
  go_wp2_with (fail)
  go_ret
  exact ⟨rfl, HB18.out⟩
end Go.Proofs.Ytajdkcpcgfipbaa
