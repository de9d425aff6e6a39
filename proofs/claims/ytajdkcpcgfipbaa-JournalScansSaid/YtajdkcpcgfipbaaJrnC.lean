/- bytes.HasPrefix, bytes.Equal; journal.records hands the records of bytes to a loop body; journal.Scan collects them. -/
import Derived.Test.YtajdkcpcgfipbaaJrnB
import Derived.Test.YtajdkcpcgfipbaaPureD
import Derived.Test.YtajdkcpcgfipbaaRange
import Derived.Shelf.Abstract
import Derived.OwnWalkIn
import Derived.TacticsInMore
import Derived.LoopNIn
import Derived.LoopIn
namespace Go.Proofs.Ytajdkcpcgfipbaa
open Go.RowKit Go.Wm
attribute [local go_sem] min_int max_int
attribute [local go_sem] Oper.semAt_some

set_option maxRecDepth 100000 in
set_option maxHeartbeats 400000 in
theorem BEqual_any (A A' : Option Addr) (c c' : Nat) (xs ys : List Int) (hx : Byt xs) (hy : Byt ys) (w : World) (hr : Rd .u8 w A xs) (hr' : Rd .u8 w A' ys) :
    Calls Try.prog 122 #[.slice A xs.length c, .slice A' ys.length c'] w fun e w' => e = .returned (.bool (decide (xs = ys))) ∧ w = w' := by
  have hcv := hr.conv (P := Try.prog) (c := c) 23 9 5 Try.underlying23 Try.underlying5 Try.underlying9
  have hcv' := hr'.conv (P := Try.prog) (c := c') 23 9 5 Try.underlying23 Try.underlying5 Try.underlying9
  clear hr hr'
  go_enter Try.func122, Try.ntmps122
  go_wp2
  go_ret
  exact ⟨by rw [← eqS hx hy]; rfl, rfl⟩

set_option maxRecDepth 100000 in
set_option maxHeartbeats 400000 in
theorem HasPrefix_any (A A' : Option Addr) (c c' : Nat) (xs ys : List Int) (hc : xs.length ≤ c) (hx : Byt xs) (hy : Byt ys) (w : World) (hr : Rd .u8 w A xs) (hr' : Rd .u8 w A' ys) :
    Calls Try.prog 115 #[.slice A xs.length c, .slice A' ys.length c'] w fun e w' => e = .returned (.bool (decide (xs.take ys.length = ys))) ∧ w = w' := by
  by_cases h : ys.length ≤ xs.length
  · have l1 : (xs.take ys.length).length = ys.length := by simp; omega
    have hT := BEqual_any A A' c c' (xs.take ys.length) ys (hx.take _) hy w (hr.take _) hr'
    rw [l1] at hT
    have HT := Lib.hid hT
    have hd : decide ((ys.length : Int) ≤ (xs.length : Int)) = true := by simp; omega
    clear hr hr' hT l1
    go_enter Try.func115, Try.ntmps115
    go_wp2_with (fail)
    refine HT.out.mono ?_
    rintro e w' ⟨rfl, rfl⟩
    obtain ⟨bb, hbb⟩ : ∃ b, b = decide (xs.take ys.length = ys) := ⟨_, rfl⟩
    rw [← hbb]
    have Hbb := Lib.hid hbb
    clear hbb
    go_wp2
    go_ret
    exact ⟨by rw [← Hbb.out]; rfl, rfl⟩
  · have hd : decide ((ys.length : Int) ≤ (xs.length : Int)) = false := by simp; omega
    have E := Lib.hid (show decide (xs.take ys.length = ys) = false from by
      simp only [decide_eq_false_iff_not]; intro e; have := congrArg List.length e; simp at this; omega)
    clear hr hr'
    rw [E.out]
    go_enter Try.func115, Try.ntmps115
    go_wp2
    go_ret
    exact ⟨rfl, rfl⟩
end Go.Proofs.Ytajdkcpcgfipbaa
