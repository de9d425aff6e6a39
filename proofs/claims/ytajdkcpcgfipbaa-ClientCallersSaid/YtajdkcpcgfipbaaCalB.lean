/- Package client: slices.Delete of one request. -/
import Derived.Test.YtajdkcpcgfipbaaCalA
import Derived.Test.YtajdkcpcgfipbaaArrC
import Derived.Deep.RegionLaw
namespace Go.Proofs.Ytajdkcpcgfipbaa
open Go.RowKit Go.Wm

theorem zero_req (w : World) : (zeroValue 32).run Try.prog w = .ok (.agg #[.int .i64 0, .int .i64 0, .slice none 0 0, .int .u64 0]) w := by kernel_rfl

set_option maxRecDepth 100000 in
set_option maxHeartbeats 4000000 in
theorem Delete_any (g off n c i : Nat) (cs : List Value) (hi : i < n) (hn : n ≤ 1000) (w : World) (ha : Arr w 32 4 (some ⟨g, off, none⟩) n c cs) (h1 : ∀ u ∈ cs, u.oneCell' = true) :
    Calls Try.prog 95 #[.slice (some ⟨g, off, none⟩) n c, .int .i64 i, .int .i64 ((i : Int) + 1)] w fun e w' => e = .returned (.slice (some ⟨g, off, none⟩) (n - 1) c) ∧ Arr w' 32 4 (some ⟨g, off, none⟩) (n - 1) c (cs.take (i * 4) ++ cs.drop (i * 4 + 4)) ∧ Kp (fun k => k = g) w w' := by
  obtain ⟨i0, hi0, hz0, hz1, hz2⟩ := info_parts info_req
  obtain ⟨m, rfl⟩ : ∃ m, n = i + 1 + m := ⟨n - (i + 1), by omega⟩
  obtain ⟨hcl, hnc, hcm, _⟩ := id ha
  obtain ⟨news, hnews⟩ : ∃ news, news = cs.drop ((i + 1) * 4) := ⟨_, rfl⟩
  have hnl : news.length = m * 4 := by rw [hnews, List.length_drop, hcl]; omega
  have Hnews1 := Lib.hid (show ∀ u ∈ news, u.oneCell' = true from fun u hu => h1 u (by rw [hnews] at hu; exact List.mem_of_mem_drop hu))
  obtain ⟨ad, hA, hsrc⟩ : ∃ ad : Addr, (if c = i + 1 then (some (⟨g, off, none⟩ : Addr)) else some ⟨g, off + (i + 1) * 4, none⟩) = some ad ∧ (∀ t u, news[t]? = some u → w.drew.cell? (ad.add t) = some u) := by
    by_cases h : c = i + 1
    · refine ⟨⟨g, off, none⟩, by simp [h], fun t u hu => ?_⟩
      have h0 : news.length = 0 := by rw [hnl]; omega
      rw [List.length_eq_zero_iff.1 h0] at hu
      simp at hu
    · refine ⟨⟨g, off + (i + 1) * 4, none⟩, by simp [h], fun t u hu => ?_⟩
      rw [hnews] at hu
      obtain ⟨g', off', e1, h5, _⟩ := Arr.cell (Arr.drop ha (k := i + 1) (by omega)) hu
      cases e1
      rw [add_ofs]
      exact h5
  have Ha := Lib.hid (show Arr w.drew 32 4 (some ⟨g, off, none⟩) (i + 1 + m) c cs from ha)
  have Hnl := Lib.hid hnl
  have Hsrc := Lib.hid hsrc
  have Hnews := Lib.hid hnews
  have Hcl := Lib.hid hcl
  have hc2 : c ≤ 9223372036854775807 := hcm
  have b1 : (0 : Int) ≤ (i : Int) := by omega
  have b2 : (i : Int) ≤ (i : Int) + 1 := by omega
  have b3 : (i : Int) + 1 ≤ ((i : Int) + 1 + (m : Int)) := by omega
  have b4 : (i : Int) + 1 + (m : Int) ≤ (c : Int) := by omega
  have b5 : (0 : Int) ≤ (i : Int) + 1 := by omega
  have b6 : (i : Int) ≤ (c : Int) := by omega
  have b7 : ((i : Int) + 1).toNat = i + 1 := by omega
  have b8 : i + 1 ≤ i + 1 + m := by omega
  have b9 : i ≤ c := by omega
  have b10 : i + 1 ≤ c := by omega
  have b11 : i + m ≤ c := by omega
  have b12 : i + m ≤ i + 1 + m := by omega
  have hne : ((i : Int) == (i : Int) + 1) = false := by simp; omega
  have hs1 : i + 1 + m - (i + m) = 1 := by omega
  have hs2 : i + 1 + m - (i + 1) = m := by omega
  clear ha h1 hcl hnl hnews hcm hsrc
  go_enter Try.func95, Try.ntmps95
  go_wp2_with (fail)
  go_region_law (refine step_append_back rfl (.tmp 22) (.tmp 25) 91 rfl 32 i0 4 Try.underlying91 hi0 hz1 g off (i + 1 + m) c cs Ha.out i (by simp [Act.eval, Act.put]) ad m (c - (i + 1)) news (by simp [Act.eval, Act.put]) Hnl.out Hsrc.out Hnews1.out (by omega) ?_; intro W1 ha1 hk1; have Ha1 := Lib.hid ha1; have Hk1 := Lib.hid hk1; clear ha1 hk1)
  obtain ⟨W2, hcr, ha2, hk2⟩ := run_clear_back (P := Try.prog) W1 91 32 (.agg #[.int .i64 0, .int .i64 0, .slice none 0 0, .int .u64 0]) 4 Try.underlying91 zero_req rfl (by decide) g off (i + 1 + m) c (c - (i + m)) _ Ha1.out (i + m) (by omega)
  have Ha2 := Lib.hid ha2
  have Hk2 := Lib.hid hk2
  have b13 : ¬ c = i + m := by omega
  have b14 : (0 : Int) ≤ (i : Int) + (m : Int) := by omega
  have b15 : (i : Int) + (m : Int) ≤ (i : Int) + 1 + (m : Int) := by omega
  have b16 : ((i : Int) + (m : Int)).toNat = i + m := by omega
  have b17 : ((i : Int) + 1 + (m : Int)).toNat = i + 1 + m := by omega
  have b18 : i + 1 + m ≤ c := by omega
  clear ha2 hk2
  go_wp2_with (fail)
  go_ret
  have hq := Hcl.out
  have hn4 := Hnl.out
  have l1 : (cs.take (i * 4) ++ news).length = (i + m) * 4 := by rw [List.length_append, List.length_take, hq, hn4]; omega
  have e1 : (cs.take (i * 4) ++ news ++ cs.drop (i * 4 + news.length)).take ((i + m) * 4) = cs.take (i * 4) ++ news := by rw [← l1]; exact List.take_left
  have h2 := Arr.upto Ha2.out (k := i + m) (by omega)
  rw [e1, List.append_assoc, ← l1, List.take_left, Hnews.out, show (i + 1) * 4 = i * 4 + 4 by omega] at h2
  refine ⟨by rw [show i + 1 + m - 1 = i + m by omega]; rfl, by rw [show i + 1 + m - 1 = i + m by omega]; exact h2, ?_⟩
  exact (((Kp.refl (fun k => k = g) w).drew).trans Hk1.out (fun _ _ e => e)).trans Hk2.out (fun _ _ e => e)
end Go.Proofs.Ytajdkcpcgfipbaa
