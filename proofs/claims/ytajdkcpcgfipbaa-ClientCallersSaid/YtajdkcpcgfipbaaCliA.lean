/- Package client: Tag, New, Call; what the sessions of a server are in memory. -/
import Derived.Test.YtajdkcpcgfipbaaCliP
import Derived.Test.YtajdkcpcgfipbaaMap
import Derived.Test.YtajdkcpcgfipbaaHashB
import Derived.Test.YtajdkcpcgfipbaaWireB
namespace Go.Proofs.Ytajdkcpcgfipbaa
open Go.RowKit Go.Wm

theorem Rd.lit4 (k : IntKind) (W : World) (T : TypeId) (a b c d : Int) : Rd k (W.alloc (.cells #[.int k a, .int k b, .int k c, .int k d] T)) (some ⟨W.heap.size, 0, none⟩) [a, b, c, d] := Rd.lit k W T [a, b, c, d]
set_option maxRecDepth 100000 in
set_option maxHeartbeats 1000000 in
theorem Tag_any (key c n : Int) (A : Option Addr) (cb : Nat) (b : List Int) (hb : Byt b) (hl : b.length ≤ 17592186044000) (w : World) (hr : Rd .u8 w A b) :
    Calls Try.prog 61 #[.int .u64 key, .int .i64 c, .int .i64 n, .slice A b.length cb] w fun e w' => e = .returned (.int .u64 (tagI key c n b)) ∧ Below w.heap.size w w' := by
  have HB := Bytes_any ⟨#[98, 111, 100, 121]⟩ (by decide) A cb b hb hl w hr
  rw [show strI ⟨#[98, 111, 100, 121]⟩ = bodyLbl by decide] at HB
  have HB := Lib.hid HB
  clear hr hb
  go_enter Try.func61, Try.ntmps61
  go_wp2_with (fail)
  refine HB.out.mono ?_
  rintro e w1 ⟨rfl, hb1⟩
  clear HB
  have HS := Sum_any ⟨#[116, 97, 103]⟩ (by decide) (some ⟨w1.heap.size, 0, none⟩) 4 [wrap64 key, c, n, wrap64 (hashB bodyLbl b)] (by simp) (w1.alloc (.cells #[.int .i64 (wrap64 key), .int .i64 c, .int .i64 n, .int .i64 (wrap64 (hashB bodyLbl b))] 3)) (Rd.lit4 .i64 w1 _ _ _ _ _)
  rw [show strI ⟨#[116, 97, 103]⟩ = tagLbl by decide] at HS
  simp only [List.length_cons, List.length_nil, Nat.zero_add, Nat.reduceAdd] at HS
  have HS := Lib.hid HS
  go_wp2_with (fail)
  refine HS.out.mono ?_
  rintro e w2 ⟨rfl, hb2⟩
  have hB : Below w.heap.size w w2 := (hb1.alloc hb1.size _).trans (hb2.mono (by simp; exact Nat.le_succ_of_le hb1.size))
  clear HS hb1 hb2
  go_wp2_with (fail)
  go_ret
  exact ⟨rfl, hB⟩

set_option maxHeartbeats 1000000 in
theorem CNew_any (w : World) :
    Calls Try.prog 16 #[] w fun e w' => e = .returned (.pointer (some ⟨w.heap.size + 1, 0, none⟩)) ∧ w' = (w.alloc (.map #[] 0)).alloc (.cells #[.map (some w.heap.size)] 112) := by
  have hmm := @run_makeMap Try.prog
  go_enter Try.func16, Try.ntmps16
  go_wp2_with (fail)
  go_ret
  exact ⟨rfl, rfl⟩
set_option maxHeartbeats 1000000 in
theorem CCall_any (c key : Int) (w : World) :
    Calls Try.prog 17 #[.int .i64 c, .int .u64 key] w fun e w' => e = .returned (.pointer (some ⟨w.heap.size, 0, none⟩)) ∧ w' = w.alloc (.cells #[.int .i64 c, .int .u64 key, .int .i64 0, .slice none 0 0] 114) := by
  go_enter Try.func17, Try.ntmps17
  go_wp2_with (fail)
  go_ret
  exact ⟨rfl, rfl⟩
end Go.Proofs.Ytajdkcpcgfipbaa
