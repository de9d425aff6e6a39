/- Package client: Caller.Got. -/
import Derived.Test.YtajdkcpcgfipbaaCalB
import Derived.Deep.QuietTactic
import Derived.BigQuiet
namespace Go.Proofs.Ytajdkcpcgfipbaa
open Go.RowKit Go.Wm

def gotE (s : Cal) (num : Int) (len : Nat) : Int := if num < 1 ∨ s.many < num then 7 else if idxI num s.l < 0 then 8 else if 65536 < len then 4 else 0
def gotS (s : Cal) (num : Int) (len : Nat) : Cal := if gotE s num len = 0 then ⟨s.c, s.key, s.many, s.l.eraseIdx (idxI num s.l).toNat⟩ else s
theorem CalTo.same {w w' : World} {g : Nat} {q : Option Nat} {s : Cal} (h : CalAt w g q s) (k : Below w.heap.size w w') : CalTo w w' g q s :=
  ⟨q, h.below k, Kp.of_below (S := fun k => k = g ∨ q = some k) k, .inl rfl⟩

set_option maxRecDepth 100000 in
set_option maxHeartbeats 4000000 in
theorem Got_any (g : Nat) (q : Option Nat) (s : Cal) (num : Int) (n : Nat) (A : Option Addr) (cb : Nat) (hs : s.l.length ≤ 16) (hn : n ≤ 140737488351232) (w : World) (h : CalAt w g q s) :
    Calls Try.prog 56 #[.pointer (some ⟨g, 0, none⟩), .int .i64 num, .slice A n cb] w fun e w' => e = .returned (.int .i64 (gotE s num n)) ∧ CalTo w w' g q (gotS s num n) := by
  have Hh := Lib.hid h
  obtain ⟨A0, c0, cs0, h1, h2, h3, h4⟩ := h
  obtain ⟨W1, hW1⟩ : ∃ W1, W1 = w.alloc (.cells #[.int .i64 num] 3) := ⟨_, rfl⟩
  have hb1 : Below w.heap.size w W1 := by rw [hW1]; exact (Below.refl _ w).alloc (Nat.le_refl _) _
  have hx1 : W1.heap[w.heap.size]? = some (.cells #[.int .i64 num] 3 (0, 0)) := by rw [hW1]; exact heap_alloc_new w _
  have hgl := (Array.getElem?_eq_some_iff.1 h1).1
  have hg1 := (hb1.block g hgl).trans h1
  have c3 : (w.alloc (.cells #[.int .i64 num] 3)).cell? ⟨g, 3, none⟩ = some (.slice A0 s.l.length c0) := by rw [← hW1]; simp [World.cell?, hg1]
  have HI := Lib.hid (IndexFunc_any num w.heap.size s.l A0 c0 cs0 (by omega) W1 (h2.kp (Kp.of_below (S := fun _ => False) hb1) (fun _ _ e => e)) (lay_kpR h3 (Kp.of_below (S := fun _ => False) hb1) (fun _ _ e => e.elim)) (by simp [World.cell?, hx1]))
  have H1 := Lib.hid h1
  have H2 := Lib.hid h2
  have H3 := Lib.hid h3
  have H4 := Lib.hid h4
  have HW1 := Lib.hid hW1
  have HB1 := Lib.hid hb1
  have Hx1 := Lib.hid hx1
  clear h1 h2 h3 h4 hW1 hb1 hx1 hg1
  go_enter Try.func56, Try.ntmps56
  go_wp2_with (fail)
  rw [← HW1.out]
  refine HI.out.mono ?_
  rintro e W2 ⟨rfl, hb2⟩
  have hb12 := HB1.out.trans (hb2.mono HB1.out.size)
  have hg2 := (hb12.block g hgl).trans H1.out
  have hx2 := (hb2.block w.heap.size (Array.getElem?_eq_some_iff.1 Hx1.out).1).trans Hx1.out
  have d0 : W2.cell? ⟨w.heap.size, 0, none⟩ = some (.int .i64 num) := by simp [World.cell?, hx2]
  have d2 : W2.cell? ⟨g, 2, none⟩ = some (.int .i64 s.many) := by simp [World.cell?, hg2]
  have HB2 := Lib.hid hb12
  have Hg2 := Lib.hid hg2
  clear hb2 hb12 hg2 hx2 c3 HI HW1
  obtain ⟨ix, hix⟩ : ∃ ix, ix = idxI num s.l := ⟨_, rfl⟩
  have hr := idxI_range num s.l
  rw [← hix] at hr ⊢
  have Hix := Lib.hid hix
  clear hix
  by_cases hA : num < 1 ∨ s.many < num
  · have hE : gotE s num n = 7 := by unfold gotE; rw [if_pos hA]
    have hS : gotS s num n = s := by unfold gotS; rw [if_neg (by rw [hE]; decide)]
    have HEs := Lib.hid (And.intro hE hS)
    have HRd := Lib.hid (show ∀ k, CalTo w (W2.drewN k) g q s from fun k => CalTo.same Hh.out (HB2.out.trans ((drewN_below W2 k).mono HB2.out.size)))
    by_cases h1 : num < 1
    · have e1 : decide (num < 1) = true := decide_eq_true h1
      clear hE hS hA
      go_wp2_with (fail)
      go_quiet (fail)
      go_wp2
      go_ret
      exact ⟨by rw [HEs.out.1]; rfl, by rw [HEs.out.2]; exact HRd.out _⟩
    · have e1 : decide (num < 1) = false := decide_eq_false h1
      have e2 : decide (s.many < num) = true := decide_eq_true (hA.resolve_left h1)
      clear hE hS hA
      go_wp2_with (fail)
      go_quiet (fail)
      go_wp2
      go_ret
      exact ⟨by rw [HEs.out.1]; rfl, by rw [HEs.out.2]; exact HRd.out _⟩
  · have e1 : decide (num < 1) = false := decide_eq_false (fun e => hA (.inl e))
    have e2 : decide (s.many < num) = false := decide_eq_false (fun e => hA (.inr e))
    have HA := Lib.hid hA
    clear hA
    by_cases hI : ix < 0
    · have e3 : decide (ix < 0) = true := decide_eq_true hI
      have hE : gotE s num n = 8 := by unfold gotE; rw [if_neg HA.out, if_pos (by rw [← Hix.out]; exact hI)]
      have hS : gotS s num n = s := by unfold gotS; rw [if_neg (by rw [hE]; decide)]
      have HEs := Lib.hid (And.intro hE hS)
      have HRd := Lib.hid (show ∀ k, CalTo w (W2.drewN k) g q s from fun k => CalTo.same Hh.out (HB2.out.trans ((drewN_below W2 k).mono HB2.out.size)))
      clear hE hS hI
      go_wp2_with (fail)
      go_quiet (fail)
      go_wp2
      go_ret
      exact ⟨by rw [HEs.out.1]; rfl, by rw [HEs.out.2]; exact HRd.out _⟩
    · have e3 : decide (ix < 0) = false := decide_eq_false hI
      by_cases hL : 65536 < n
      · have e4 : decide (65536 < (n : Int)) = true := decide_eq_true (by omega)
        have e5 : decide (65536 < n) = true := decide_eq_true hL
        have hE : gotE s num n = 4 := by unfold gotE; rw [if_neg HA.out, if_neg (by rw [← Hix.out]; exact hI), if_pos hL]
        have hS : gotS s num n = s := by unfold gotS; rw [if_neg (by rw [hE]; decide)]
        have HEs := Lib.hid (And.intro hE hS)
        have HRd := Lib.hid (show ∀ k, CalTo w (W2.drewN k) g q s from fun k => CalTo.same Hh.out (HB2.out.trans ((drewN_below W2 k).mono HB2.out.size)))
        clear hE hS hI hL
        go_wp2_with (fail)
        go_quiet (fail)
        go_wp2
        go_ret
        exact ⟨by rw [HEs.out.1]; rfl, by rw [HEs.out.2]; exact HRd.out _⟩
      · have e4 : decide (65536 < (n : Int)) = false := decide_eq_false (by omega)
        have e5 : decide (65536 < n) = false := decide_eq_false hL
        obtain ⟨i, rfl⟩ : ∃ i : Nat, ix = i := ⟨ix.toNat, (Int.toNat_of_nonneg (by omega)).symm⟩
        have hil : i < s.l.length := by omega
        have hE : gotE s num n = 0 := by unfold gotE; rw [if_neg HA.out, if_neg (by rw [← Hix.out]; exact hI), if_neg hL]
        have hS : gotS s num n = ⟨s.c, s.key, s.many, s.l.eraseIdx i⟩ := by unfold gotS; rw [if_pos hE, ← Hix.out]; rfl
        have HEs := Lib.hid (And.intro hE hS)
        have hiw : IntKind.i64.wrap ((i : Int) + 1) = (i : Int) + 1 := IntWalk.i64_in _ (by omega)
        clear hE hS hI hL
        rcases H2.out.cells with ⟨_, e0, _, _⟩ | ⟨b0, o0, rfl, hb0, _⟩
        · omega
        · have d3 : W2.cell? ⟨g, 3, none⟩ = some (.slice (some ⟨b0, o0, none⟩) s.l.length c0) := by simp [World.cell?, Hg2.out]
          go_wp2_with (fail)
          go_quiet (fail)
          go_wp2_with (fail)
          obtain ⟨Wn, hWn⟩ : ∃ Wn, Wn = W2.drewN nq := ⟨_, rfl⟩
          rw [← hWn]
          have hbn : Below w.heap.size w Wn := by rw [hWn]; exact HB2.out.trans ((drewN_below W2 nq).mono HB2.out.size)
          have hgb : g ≠ b0 := fun e => blk_ne_arr H2.out H1.out (by decide) ⟨_, rfl, e⟩
          have hgn := (hbn.block g hgl).trans H1.out
          refine (Delete_any b0 o0 s.l.length c0 i cs0 hil (by omega) Wn (H2.out.kp (Kp.of_below (S := fun _ => False) hbn) (fun _ _ e => e)) (lay_one H3.out)).mono ?_
          rintro e W3 ⟨rfl, ha3, hk3⟩
          have hg3 := (hk3.block g (Array.getElem?_eq_some_iff.1 hgn).1 hgb).trans hgn
          have f3 : W3.cell? ⟨g, 3, none⟩ = some (.slice (some ⟨b0, o0, none⟩) s.l.length c0) := by simp [World.cell?, hg3]
          have f4 : W3.frozen? ⟨g, 3, none⟩ = false := by simp [World.frozen?, hg3]
          have hk3w : Kp (fun k => k = g ∨ k = b0) w W3 := (Kp.of_below (S := fun k => k = g ∨ k = b0) hbn).trans hk3 (fun _ _ e => .inr e)
          have HK3 := Lib.hid hk3w
          have Ha3 := Lib.hid ha3
          have Hg3 := Lib.hid hg3
          have Hgb := Lib.hid hgb
          clear hWn hbn hgb hgn ha3 hk3 hg3 hk3w d0 d2 d3 hiw
          go_wp2_with (fail)
          go_ret
          obtain ⟨Wf, hWf⟩ : ∃ Wf, Wf = W3.setCell ⟨g, 3, none⟩ (.slice (some ⟨b0, o0, none⟩) (s.l.length - 1) c0) := ⟨_, rfl⟩
          rw [← hWf]
          have kf : Kp (fun j => j = g) W3 Wf := by rw [hWf]; exact (Kp.refl (fun j => j = g) W3).set (p := ⟨g, 3, none⟩) (fun _ => rfl) _
          have kall : Kp (fun k => k = g ∨ k = b0) w Wf := HK3.out.trans kf (fun _ _ e => .inl e)
          have hnb : ∀ j, j < w.heap.size → j = g ∨ j = b0 → NoB w j := by
            rintro j hj (rfl | rfl)
            · exact nob_cells H1.out (by decide)
            · obtain ⟨_, _, cur, b3⟩ := H2.out.blk _ rfl
              exact nob_cells b3 (by decide)
          have hL := lay_kpR H3.out kall hnb
          have hq : q = some b0 := H4.out
          refine ⟨by rw [HEs.out.1]; rfl, ?_⟩
          rw [HEs.out.2]
          refine ⟨q, ⟨some ⟨b0, o0, none⟩, c0, cs0.take (i * 4) ++ cs0.drop (i * 4 + 4), ?_, ?_, ?_, hq⟩, kall.mono (fun j _ e => ?_), .inl rfl⟩
          · show Wf.heap[g]? = some (.cells #[.int .i64 s.c, .int .u64 s.key, .int .i64 s.many, .slice (some ⟨b0, o0, none⟩) (s.l.eraseIdx i).length c0] 114 (0, 0))
            rw [List.length_eraseIdx_of_lt hil, hWf]
            simp [World.setCell, Array.getElem?_modify, Hg3.out]
          · show Arr Wf 32 4 (some ⟨b0, o0, none⟩) (s.l.eraseIdx i).length c0 _
            rw [List.length_eraseIdx_of_lt hil]
            exact Ha3.out.kp kf (fun a ea e => by cases ea; exact Hgb.out e.symm)
          · show Lay 4 (RqE Wf) (s.l.eraseIdx i) _
            rw [List.eraseIdx_eq_take_drop_succ, show i * 4 + 4 = (i + 1) * 4 by omega]
            exact (hL.take i).append (hL.drop (i + 1))
          · rcases e with rfl | rfl
            · exact .inl rfl
            · exact .inr hq
end Go.Proofs.Ytajdkcpcgfipbaa
