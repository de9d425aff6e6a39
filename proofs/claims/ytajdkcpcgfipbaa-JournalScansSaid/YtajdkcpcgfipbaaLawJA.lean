/- The document's example of package journal, as the law's lives runs it: it is true. -/
import Derived.Test.YtajdkcpcgfipbaaJrnE
import Derived.Test.YtajdkcpcgfipbaaRefA
import Derived.Test.YtajdkcpcgfipbaaPureF
import Derived.Test.YtajdkcpcgfipbaaMemD
namespace Go.Proofs.Ytajdkcpcgfipbaa
open Go.RowKit Go.Wm
attribute [local go_sem] min_int max_int

set_option maxRecDepth 100000 in
set_option maxHeartbeats 2000000 in
theorem lives25_any (w : World) :
    Calls Try.prog 46 #[] w fun e w' => e = .returned (.bool true) ∧ Below w.heap.size w w' := by
  obtain ⟨i0, hi, hz0, hz1, hz2⟩ := info_parts info_u8
  go_enter Try.func46, Try.ntmps46
  have hb7 : Byt [7] := Byt.cons (by omega) Byt.nil
  have hb017 : Byt [0, 1, 7] := Byt.cons (by omega) (Byt.cons (by omega) (Byt.cons (by omega) Byt.nil))
  have hb301 : Byt [3, 0, 1] := Byt.cons (by omega) (Byt.cons (by omega) (Byt.cons (by omega) Byt.nil))
  have hfl := frameB_length 0 [7] (by omega) (by omega) (by decide)
  have hfb := frameB_byt (n := 0) hb7
  have hf4 := frame7_len
  obtain ⟨F, hF⟩ : ∃ F, F = frameB 0 [7] := ⟨_, rfl⟩
  have HF := Lib.hid hF
  go_wp2_with (fail)
  refine (Frame_any 0 (by omega) (by omega) (some ⟨w.heap.size, 0, none⟩) 1 [7] hb7 (by decide) _ (Rd.lit .u8 w 5 [7])).mono ?_
  rintro e W1 ⟨⟨v1, rfl, ho1⟩, hb1⟩
  rw [← hF] at ho1 hfl hfb hf4
  clear hF
  simp only [List.length_cons, List.length_nil] at hfl
  have hB1 : Below w.heap.size w W1 := ((Below.refl _ w).alloc (Nat.le_refl _) _).trans (hb1.mono (by simp))
  have hs1 : w.heap.size + 1 ≤ W1.heap.size := by have := hb1.size; simpa using this
  obtain ⟨A1, c1, rfl⟩ := own_slice' ho1
  have ho1' := own_to (base' := w.heap.size) ho1 (by simp)
  clear ho1
  have hA1 : ∀ b, (Value.slice A1 F.length c1).ownBlock = some b → b < W1.heap.size := fun b e => (ho1'.lt b e).2
  have Ho1 := Lib.hid ho1'
  clear ho1'
  -- the writer
  have hw2 : Wr W1.heap.size ((W1.alloc (.cells #[.slice none 0 0] 69)).alloc (.cells #[.int .u8 0, .int .u8 1, .int .u8 7] 5)) W1.heap.size none [] := (Wr.new W1).kp ((Kp.refl (fun _ => False) _).alloc _) (fun e => e) (fun _ _ e => e)
  have hl2 := Rd.lit .u8 (W1.alloc (.cells #[.slice none 0 0] 69)) 5 [0, 1, 7]
  rw [World.size_alloc] at hl2
  have hk2 : Kp (fun _ => False) W1 ((W1.alloc (.cells #[.slice none 0 0] 69)).alloc (.cells #[.int .u8 0, .int .u8 1, .int .u8 7] 5)) := ((Kp.refl _ W1).alloc _).alloc _
  have Hk2 := Lib.hid hk2
  have HR2 := WRaw_any W1.heap.size W1.heap.size none [] (some ⟨W1.heap.size + 1, 0, none⟩) 3 [0, 1, 7] hb017 (by decide) (by decide) _ hw2 hl2
  have HR2' := Lib.hid HR2
  clear hk2 hw2 hl2 HR2
  go_wp2_with (fail)
  refine HR2'.out.mono ?_
  rintro e W3 ⟨rfl, ⟨r3, hw3, hn3⟩, hk3⟩
  simp only [List.nil_append] at hw3
  have hk13 : Kp (fun k => W1.heap.size ≤ k) W1 W3 := (Hk2.out.mono (fun _ _ e => e.elim)).trans hk3 (fun k _ e => by rcases e with e | e; omega; cases e)
  have hg3 : ∀ b, r3 = some b → W1.heap.size ≤ b := fun b e => by have := hn3.none_ge b e; simp at this; omega
  have hs3 := hk13.size
  have Hw3 := Lib.hid hw3
  have Hk13 := Lib.hid hk13
  clear hw3 hk13 hk3 hn3 HR2' Hk2
  -- the hash
  have hlb : strI ⟨#[114, 101, 99, 111, 114, 100]⟩ = recLbl := by decide
  have hl4 := Rd.lit .u8 W3 5 [0, 1, 7]
  have HB := Bytes_any ⟨#[114, 101, 99, 111, 114, 100]⟩ (by decide) (some ⟨W3.heap.size, 0, none⟩) 3 [0, 1, 7] hb017 (by decide) _ hl4
  rw [hlb, hashN_eq] at HB
  have HB' := Lib.hid HB
  clear hlb hl4 HB
  go_wp2_with (fail)
  refine HB'.out.mono ?_
  rintro e W5 ⟨rfl, hb5⟩
  have hk35 : Kp (fun _ => False) W3 W5 := ((Kp.refl _ W3).alloc _).trans (Kp.of_below (S := fun _ => False) hb5) (fun _ _ e => e)
  have hw5 := Hw3.out.kp hk35 (fun e => e) (fun _ _ e => e)
  have Hk35 := Lib.hid hk35
  have hs5 := hk35.size
  clear hk35 HB' hb5
  go_wp2_with (fail)
  refine (WUint_any W1.heap.size W1.heap.size r3 (rawW [0, 1, 7]) (hashN recLbl [0, 1, 7]) (hashN_lt _ _) (by rw [raw3]; decide) W5 hw5).mono ?_
  rintro e W6 ⟨rfl, ⟨r6, hw6, hn6⟩, hk6⟩
  rw [← frame7, ← HF.out] at hw6
  have hs6 := hk6.size
  have hk16 : Kp (fun k => W1.heap.size ≤ k) W1 W6 := (Hk13.out.trans (Hk35.out) (fun _ _ e => e.elim)).trans hk6 (fun k _ e => by rcases e with e | e; omega; exact hg3 k e.symm)
  have hg6 : ∀ b, r6 = some b → W1.heap.size ≤ b := fun b e => by
    rcases hn6 with h | ⟨k, h, hk⟩
    · exact hg3 b (h ▸ e)
    · rw [h] at e; cases e; omega
  have ho6 := own_kp Ho1.out hk16 (fun b e q => by have := hA1 b e; omega)
  have hB6 : Below w.heap.size w W6 := hB1.trans (hk16.below (by omega) (fun k e => by omega))
  have Hw6 := Lib.hid hw6
  have Ho6 := Lib.hid ho6
  clear hw5 hw6 ho6 hk6 hn6 hk16 Hk13 Hk35 Hw3 Ho1
  have HL := Lib.hid (Rd.lit .u8 W6 5 [3, 0, 1])
  go_wp2_with (at_builtin; refine wpList_append_keep rfl _ _ 23 rfl w.heap.size 5 i0 (.int .u8 0) 1 1 Try.underlying23 hi hz0 hz1 hz2 rfl (by decide) _ _ _ rfl (Ho6.out.alloc _) ⟨W6.heap.size, 0, none⟩ 3 3 ([3, 0, 1].map (Value.int .u8)) rfl rfl HL.out.news (ones _ _) (by unfold maxLen; omega) (by omega) (by simp; omega) ?_; intro v7 w7 hown7 hgrow _ hold; obtain ⟨A7, c7, rfl⟩ := own_slice' hown7; have Hown := Lib.hid hown7; have Hgrow := Lib.hid hgrow; have Hold := Lib.hid hold; clear hown7 hgrow hold)
  have hk67 : Kp (fun k => some k = (Value.slice A1 F.length c1).ownBlock) W6 w7 := ((Kp.refl _ W6).alloc _).trans (Kp.of_grown (S := fun k => some k = (Value.slice A1 F.length c1).ownBlock) Hgrow.out (fun k e => e.symm)) (fun _ _ e => e)
  have hw7 := Hw6.out.kp hk67 (fun e => by have := hA1 _ e.symm; omega) (fun b e q => by have := hA1 b q.symm; have := hg6 b e; omega)
  have hs7 := hk67.size
  have hlo : ∀ b, (Value.slice A1 F.length c1).ownBlock = some b → w.heap.size ≤ b := fun b e => (Ho6.out.lt b e).1
  have hB7 : Below w.heap.size w w7 := hB6.trans (hk67.below (by omega) (fun k e => hlo k e.symm))
  have hl7 : (F ++ [3, 0, 1]).length = F.length + 3 := by simp
  have hown7 : w7.ownsRow w.heap.size 5 1 (.slice A7 (F.length + 3) c7) (F.length + 3) ((F ++ [3, 0, 1]).map (.int .u8)) := by have := Hown.out; simpa using this
  have hS := Scan_any A7 c7 (F ++ [3, 0, 1]) (hfb.append hb301) (by rw [hl7]; exact own_cap hown7) (by rw [hl7]; omega) w7 (Rd.of_own hown7)
  have hsc := scan7
  rw [← HF.out] at hsc
  rw [hl7, hsc] at hS
  have HS := Lib.hid hS
  have Hw7 := Lib.hid hw7
  clear hS hw7 hown7 hsc hk67 Hgrow Hown HL Hw6 Ho6
  go_wp2_with (fail)
  refine HS.out.mono ?_
  rintro e W8 ⟨⟨v8, ys, rfl, hys, hrow8, hin8⟩, hb8⟩
  obtain ⟨y, rfl, hy2⟩ : ∃ y, ys = [y] ∧ y.2 = ([7], F.length) := by
    cases ys with
    | nil => simp at hys
    | cons y ys =>
      cases ys with
      | nil => exact ⟨y, rfl, by simpa using hys⟩
      | cons z zs => simp at hys
  have hla : lastAt [y] = F.length := by simp [lastAt, hy2]
  rw [hla]
  have hL8 : OwL W8 w7.heap.size 23 5 v8 [(y.1, [7])] := ⟨by simpa using hrow8, by
    intro t ht
    rw [List.mem_singleton.1 ht]
    have h := hin8 y (by simp)
    unfold RecIn at h
    rw [hy2] at h
    exact ⟨_, h⟩⟩
  obtain ⟨A8, c8, rfl, hrl8, _⟩ := hL8.rd
  have hs8 := hb8.size
  have hB8 : Below w.heap.size w W8 := hB7.trans (hb8.mono (by omega))
  have hw8 := Hw7.out.kp (Kp.of_below (S := fun _ => False) hb8) (fun e => e) (fun _ _ e => e)
  have hr8 := (Rd.of_own Hold.out).below hb8 (Nat.le_refl _)
  have Hrl8 := Lib.hid hrl8
  have Hr8 := Lib.hid hr8
  clear hrow8 hin8 hys hla hL8 hrl8 hr8 HS Hw7 Hold hy2
  simp only [List.length_cons, List.length_nil, Nat.zero_add]
  go_wp2_with (fail)
  refine (WDone_any W1.heap.size W1.heap.size r6 F (by omega) W8 hw8).mono ?_
  rintro e W9 ⟨⟨v9, rfl, ho9⟩, hb9⟩
  obtain ⟨A9, c9, rfl⟩ := own_slice' ho9
  have hs9 := hb9.size
  have hB9 : Below w.heap.size w W9 := hB8.trans (hb9.mono (by omega))
  have hSB := SameBytes_any A1 A9 c1 c9 F F (by omega) W9 (Hr8.out.below hb9 (Nat.le_refl _)) (Rd.of_own ho9)
  rw [show decide (F = F) = true from decide_eq_true rfl] at hSB
  have HSB := Lib.hid hSB
  have Hrl9 := Lib.hid (Hrl8.out.below hb9 (Nat.le_refl _))
  clear ho9 hw8 Hr8 Hrl8 hSB
  go_wp2_with (fail)
  refine HSB.out.mono ?_
  rintro e W10 ⟨rfl, n10, hn10⟩
  have Hn10 := Lib.hid hn10
  have hs10 : W10.heap.size = W9.heap.size := by rw [hn10]; rfl
  have hB10 : Below w.heap.size w W10 := by rw [hn10]; exact ⟨hB9.os, hB9.tape, hB9.output, hB9.size, hB9.block⟩
  have hrl10 : RdL W10 A8 [[7]] := by rw [hn10]; exact RdL.drewN Hrl9.out n10
  have Hrl10 := Lib.hid hrl10
  clear hn10 hrl10 Hrl9 HSB
  have h11 : RdL (W10.alloc (.cells #[.int .u8 7] 5)) A8 [[7]] := Hrl10.out.below ((Below.refl _ W10).alloc (Nat.le_refl _) _) (Nat.le_refl _)
  have h12 : RdL ((W10.alloc (.cells #[.int .u8 7] 5)).alloc (.cells #[.slice (some ⟨W10.heap.size, 0, none⟩) 1 1] 23)) A8 [[7]] := h11.below ((Below.refl _ _).alloc (Nat.le_refl _) _) (Nat.le_refl _)
  have r12 : Rd .u8 ((W10.alloc (.cells #[.int .u8 7] 5)).alloc (.cells #[.slice (some ⟨W10.heap.size, 0, none⟩) 1 1] 23)) (some ⟨W10.heap.size, 0, none⟩) [7] := (Rd.lit .u8 W10 5 [7]).below ((Below.refl _ _).alloc (Nat.le_refl _) _) (Nat.le_refl _)
  have hrl12 : RdL ((W10.alloc (.cells #[.int .u8 7] 5)).alloc (.cells #[.slice (some ⟨W10.heap.size, 0, none⟩) 1 1] 23)) (some ⟨W10.heap.size + 1, 0, none⟩) [[7]] := by
    refine .inr ⟨W10.heap.size + 1, 0, rfl, by simp, fun j hj => ?_⟩
    cases j with
    | zero => exact ⟨_, 1, by simp, Nat.le_refl _, r12⟩
    | succ j => simp at hj
  have hSL := SameLists_any A8 (some ⟨W10.heap.size + 1, 0, none⟩) c8 1 [[7]] [[7]] (by decide) (by decide) _ h12 hrl12
  rw [show decide ([[(7:Int)]] = [[7]]) = true from by decide] at hSL
  have HSL := Lib.hid hSL
  have hB12 : Below w.heap.size w ((W10.alloc (.cells #[.int .u8 7] 5)).alloc (.cells #[.slice (some ⟨W10.heap.size, 0, none⟩) 1 1] 23)) := (hB10.alloc (by omega) _).alloc (by simp; omega) _
  have HB12 := Lib.hid hB12
  clear hSL hrl12 h12 h11 r12 hs10 hB12 hB10 hB9 hB8 hB7 hB6
  go_wp2_with (fail)
  refine HSL.out.mono ?_
  rintro e W13 ⟨rfl, n13, hn13⟩
  have hB13 : Below w.heap.size w W13 := by rw [hn13]; have h := HB12.out; exact ⟨h.os, h.tape, h.output, h.size, h.block⟩
  have HB13 := Lib.hid hB13
  clear hB13 hn13 HSL HB12
  go_wp2_with (fail)
  go_ret
  exact ⟨rfl, HB13.out⟩
end Go.Proofs.Ytajdkcpcgfipbaa
