/- Package client: Encode; the reference's Tag and Encode. -/
import Derived.Test.YtajdkcpcgfipbaaCliK
import Derived.Test.YtajdkcpcgfipbaaRefC
import Derived.Test.YtajdkcpcgfipbaaWireE
namespace Go.Proofs.Ytajdkcpcgfipbaa
open Go.RowKit Go.Wm

/-- the bytes of a request -/
def encB (r : Rq) : List Int := intW r.c ++ intW r.n ++ rawW r.b ++ varN r.t.toNat
theorem encB_length (r : Rq) (hc : I64 r.c) (hn : I64 r.n) (ht : 0 ≤ r.t ∧ r.t < 18446744073709551616) (hl : r.b.length ≤ 1099511627776) : 0 < (encB r).length ∧ (encB r).length ≤ r.b.length + 40 := by
  have h1 := (i64_iff _).1 hc
  have h2 := (i64_iff _).1 hn
  have a := intW_length r.c h1.1 h1.2
  have b := intW_length r.n h2.1 h2.2
  have c := rawW_length r.b (by omega)
  have d := varN_length r.t.toNat (by omega)
  have e : 0 < (varN r.t.toNat).length := by
    by_cases h : r.t.toNat < 128
    · rw [varN_small h]; simp
    · rw [varN_big h]; simp
  unfold encB
  simp only [List.length_append]
  omega
theorem encB_byt (r : Rq) (hb : Byt r.b) : Byt (encB r) := (((intW_byt _).append (intW_byt _)).append (rawW_byt hb)).append (varN_byt _)

set_option maxRecDepth 100000 in
set_option maxHeartbeats 2000000 in
theorem Encode_any (r : Rq) (A : Option Addr) (cb : Nat) (hc : I64 r.c) (hn : I64 r.n) (ht : 0 ≤ r.t ∧ r.t < 18446744073709551616) (hb : Byt r.b) (hl : r.b.length ≤ 1099511627776) (w : World) (hr : Rd .u8 w A r.b) :
    Calls Try.prog 62 #[.agg #[.int .i64 r.c, .int .i64 r.n, .slice A r.b.length cb, .int .u64 r.t]] w fun e w' => (∃ v, e = .returned v ∧ w'.ownsRow w.heap.size 5 1 v (encB r).length ((encB r).map (.int .u8))) ∧ Below w.heap.size w w' := by
  have Hr := Lib.hid hr
  have hci := (i64_iff _).1 hc
  have hni := (i64_iff _).1 hn
  have il1 := intW_length r.c hci.1 hci.2
  have il2 := intW_length r.n hni.1 hni.2
  have rl := rawW_length r.b (by omega)
  obtain ⟨tn, htn⟩ : ∃ tn : Nat, r.t = tn := ⟨r.t.toNat, (Int.toNat_of_nonneg ht.1).symm⟩
  have hte : r.t.toNat = tn := by omega
  have Htn := Lib.hid htn
  have Hte := Lib.hid hte
  have vl := varN_length tn (by omega)
  have htl : tn < 18446744073709551616 := by omega
  clear hr htn hte
  go_enter Try.func62, Try.ntmps62
  go_wp2_with (fail)
  obtain ⟨W0, hW0⟩ : ∃ W0, (w.alloc (.cells #[.int .i64 r.c, .int .i64 r.n, .slice A r.b.length cb, .int .u64 r.t] 32)).alloc (.cells #[.slice none 0 0] 69) = W0 := ⟨_, rfl⟩
  have hs0 : W0.heap.size = w.heap.size + 2 := by rw [← hW0]; simp
  have hB0 : Below w.heap.size w W0 := by rw [← hW0]; exact ((Below.refl _ w).alloc (Nat.le_refl _) _).alloc (by simp) _
  have hw0 : Wr (w.heap.size + 1) W0 (w.heap.size + 1) none [] := by
    have := Wr.new (w.alloc (.cells #[.int .i64 r.c, .int .i64 r.n, .slice A r.b.length cb, .int .u64 r.t] 32))
    rw [World.size_alloc, hW0] at this
    exact this
  have hbx : W0.heap[w.heap.size]? = some (.cells #[.int .i64 r.c, .int .i64 r.n, .slice A r.b.length cb, .int .u64 r.t] 32 (0, 0)) := by
    rw [← hW0]
    exact (((Below.refl _ (w.alloc (.cells #[.int .i64 r.c, .int .i64 r.n, .slice A r.b.length cb, .int .u64 r.t] 32))).alloc (Nat.le_refl _) (.cells #[.slice none 0 0] 69)).block w.heap.size (by simp)).trans (heap_alloc_new w _)
  rw [hW0]
  clear hW0
  have HB0 := Lib.hid hB0
  have Hbx := Lib.hid hbx
  clear hB0 hbx
  refine (WInt_any (w.heap.size + 1) (w.heap.size + 1) none [] r.c hci.1 hci.2 (by simp) W0 hw0).mono ?_
  rintro e W1 ⟨rfl, ⟨r1, hw1, hn1⟩, hk1⟩
  have hb1 := hw0.step hk1
  simp only [List.nil_append] at hw1
  have hx1 := (hb1.block w.heap.size (by omega)).trans Hbx.out
  have c1 : W1.cell? ⟨w.heap.size, 1, none⟩ = some (.int .i64 r.n) := by simp [World.cell?, hx1]
  have HB1 := Lib.hid hb1
  have Hw1 := Lib.hid hw1
  clear hw0 hw1 hn1 hk1 hx1 hb1
  go_wp2_with (fail)
  refine (WInt_any (w.heap.size + 1) (w.heap.size + 1) r1 (intW r.c) r.n hni.1 hni.2 (by omega) W1 Hw1.out).mono ?_
  rintro e W2 ⟨rfl, ⟨r2, hw2, hn2⟩, hk2⟩
  have hb2 := HB1.out.trans (Hw1.out.step hk2)
  have hx2 := (hb2.block w.heap.size (by omega)).trans Hbx.out
  have c2 : W2.cell? ⟨w.heap.size, 2, none⟩ = some (.slice A r.b.length cb) := by simp [World.cell?, hx2]
  have HB2 := Lib.hid hb2
  have Hw2 := Lib.hid hw2
  clear hw2 hn2 hk2 hx2 hb2 c1 Hw1 HB1
  go_wp2_with (fail)
  refine (WRaw_any (w.heap.size + 1) (w.heap.size + 1) r2 (intW r.c ++ intW r.n) A cb r.b hb (by omega) (by simp; omega) W2 Hw2.out (Hr.out.below (HB0.out.trans (HB2.out.mono (by omega))) (Nat.le_refl _))).mono ?_
  rintro e W3 ⟨rfl, ⟨r3, hw3, hn3⟩, hk3⟩
  have hb3 := HB2.out.trans (Hw2.out.step hk3)
  have hx3 := (hb3.block w.heap.size (by omega)).trans Hbx.out
  have c3 : W3.cell? ⟨w.heap.size, 3, none⟩ = some (.int .u64 (tn : Int)) := by rw [← Htn.out]; simp [World.cell?, hx3]
  have HB3 := Lib.hid hb3
  have Hw3 := Lib.hid hw3
  clear hw3 hn3 hk3 hx3 hb3 c2 Hw2 HB2
  go_wp2_with (fail)
  refine (WUint_any (w.heap.size + 1) (w.heap.size + 1) r3 (intW r.c ++ intW r.n ++ rawW r.b) tn htl (by simp; omega) W3 Hw3.out).mono ?_
  rintro e W4 ⟨rfl, ⟨r4, hw4, hn4⟩, hk4⟩
  have hb4 := HB3.out.trans (Hw3.out.step hk4)
  have HB4 := Lib.hid hb4
  have Hw4 := Lib.hid (show Wr (w.heap.size + 1) W4 (w.heap.size + 1) r4 (encB r) by rw [encB, Hte.out]; exact hw4)
  have hel := encB_length r hc hn ht hl
  clear hw4 hn4 hk4 hb4 c3 Hw3 HB3
  go_wp2_with (fail)
  refine (WDone_any (w.heap.size + 1) (w.heap.size + 1) r4 (encB r) (by omega) W4 Hw4.out).mono ?_
  rintro e W5 ⟨⟨v5, rfl, ho5⟩, hb5⟩
  have Ho5 := Lib.hid (own_to (base' := w.heap.size) ho5 (by have := HB4.out.size; omega))
  have HB5 := Lib.hid (HB0.out.trans ((HB4.out.trans (hb5.mono (by have := HB4.out.size; omega))).mono (by omega)))
  clear ho5 hb5 hel
  go_wp2_with (fail)
  go_ret
  exact ⟨⟨v5, rfl, Ho5.out⟩, HB5.out⟩

set_option maxRecDepth 100000 in
set_option maxHeartbeats 1000000 in
theorem RTag_any (key c n : Int) (A : Option Addr) (cb : Nat) (b : List Int) (hb : Byt b) (hl : b.length ≤ 17592186044000) (w : World) (hr : Rd .u8 w A b) :
    Calls Try.prog 37 #[.int .u64 key, .int .i64 c, .int .i64 n, .slice A b.length cb] w fun e w' => e = .returned (.int .u64 (tagI key c n b)) ∧ Below w.heap.size w w' := by
  have HB := RBytes_any ⟨#[98, 111, 100, 121]⟩ (by decide) A cb b hb hl w hr
  rw [show strI ⟨#[98, 111, 100, 121]⟩ = bodyLbl by decide] at HB
  have HB := Lib.hid HB
  clear hr hb
  go_enter Try.func37, Try.ntmps37
  go_wp2_with (fail)
  refine HB.out.mono ?_
  rintro e w1 ⟨rfl, hb1⟩
  clear HB
  have HS := RSum_any ⟨#[116, 97, 103]⟩ (by decide) (some ⟨w1.heap.size, 0, none⟩) 4 [wrap64 key, c, n, wrap64 (hashB bodyLbl b)] (by simp) (w1.alloc (.cells #[.int .i64 (wrap64 key), .int .i64 c, .int .i64 n, .int .i64 (wrap64 (hashB bodyLbl b))] 3)) (Rd.lit4 .i64 w1 _ _ _ _ _)
  rw [show strI ⟨#[116, 97, 103]⟩ = tagLbl by decide] at HS
  simp only [List.length_cons, List.length_nil, Nat.zero_add, Nat.reduceAdd] at HS
  have HS := Lib.hid HS
  go_wp2_with (fail)
  refine HS.out.mono ?_
  rintro e w2 ⟨rfl, hb2⟩
  have hB : Below w.heap.size w w2 := (hb1.alloc hb1.size _).trans (hb2.mono (by simp; exact Nat.le_succ_of_le hb1.size))
  clear HS hb1 hb2
  go_wp2_with (fail)
  go_ret
  exact ⟨rfl, hB⟩
end Go.Proofs.Ytajdkcpcgfipbaa
