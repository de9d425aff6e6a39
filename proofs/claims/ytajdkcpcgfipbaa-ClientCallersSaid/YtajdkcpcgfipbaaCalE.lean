/- The reference's Caller: Got. -/
import Derived.Test.YtajdkcpcgfipbaaCalD
import Derived.Test.YtajdkcpcgfipbaaArrD
namespace Go.Proofs.Ytajdkcpcgfipbaa
open Go.RowKit Go.Wm

/-- what a call on the reference's caller leaves -/
def RCalGo (w w' : World) (g : Nat) (q : Option Nat) (s : Cal) : Prop := ∃ q', RCalAt w' g q' s ∧ Kp (fun k => k = g ∨ q = some k) w w' ∧ (q' = q ∨ ∀ k, q' = some k → w.heap.size ≤ k)
theorem RCalTo.go {w w' : World} {g : Nat} {q : Option Nat} {s : Cal} (h : RCalTo w w' g q s) : RCalGo w w' g q s := by
  obtain ⟨q', h1, h2, h3⟩ := h
  refine ⟨q', h1, h2, ?_⟩
  rcases h3 with h3 | ⟨k, e, hk⟩
  · exact .inl h3
  · exact .inr (fun j ej => by rw [e] at ej; cases ej; exact hk)
theorem RCalGo.same {w w' : World} {g : Nat} {q : Option Nat} {s : Cal} (h : RCalAt w g q s) (k : Below w.heap.size w w') : RCalGo w w' g q s :=
  ⟨q, h.below k, Kp.of_below (S := fun k => k = g ∨ q = some k) k, .inl rfl⟩

set_option maxRecDepth 100000 in
set_option maxHeartbeats 4000000 in
theorem RGot_any (g : Nat) (q : Option Nat) (s : Cal) (num : Int) (n : Nat) (A : Option Addr) (cb : Nat) (hs : s.l.length ≤ 16) (hn : n ≤ 140737488351232) (w : World) (h : RCalAt w g q s) :
    Calls Try.prog 57 #[.pointer (some ⟨g, 0, none⟩), .int .i64 num, .slice A n cb] w fun e w' => e = .returned (.int .i64 (gotE s num n)) ∧ RCalGo w w' g q (gotS s num n) := by
  have Hh := Lib.hid h
  obtain ⟨A0, c0, cs0, h1, h2, h3, h4⟩ := h
  obtain ⟨i0, hi, hz0, hz1, hz2⟩ := info_parts info_rreq
  have hgl := (Array.getElem?_eq_some_iff.1 h1).1
  have d2 : w.cell? ⟨g, 2, none⟩ = some (.int .i64 s.many) := by simp [World.cell?, h1]
  have d3 : w.cell? ⟨g, 3, none⟩ = some (.slice A0 s.l.length c0) := by simp [World.cell?, h1]
  have H1 := Lib.hid h1
  have H2 := Lib.hid h2
  have H3 := Lib.hid h3
  have H4 := Lib.hid h4
  have HRw := Lib.hid (show RCalGo w w g q s from RCalGo.same Hh.out (Below.refl _ _))
  clear h1 h2 h3 h4
  by_cases hA : num < 1 ∨ s.many < num
  · have hE : gotE s num n = 7 := by unfold gotE; rw [if_pos hA]
    have hS : gotS s num n = s := by unfold gotS; rw [if_neg (by rw [hE]; decide)]
    rw [hE, hS]
    by_cases h1 : num < 1
    · have e1 : decide (num < 1) = true := decide_eq_true h1
      clear hE hS hA
      go_enter Try.func57, Try.ntmps57
      go_wp2
      go_ret
      exact ⟨rfl, HRw.out⟩
    · have e1 : decide (num < 1) = false := decide_eq_false h1
      have e2 : decide (s.many < num) = true := decide_eq_true (hA.resolve_left h1)
      clear hE hS hA
      go_enter Try.func57, Try.ntmps57
      go_wp2
      go_ret
      exact ⟨rfl, HRw.out⟩
  · have e1 : decide (num < 1) = false := decide_eq_false (fun e => hA (.inl e))
    have e2 : decide (s.many < num) = false := decide_eq_false (fun e => hA (.inr e))
    have HA := Lib.hid hA
    clear hA
    go_enter Try.func57, Try.ntmps57
    go_wp2_with (fail)
    go_loopw [6, 7, 8] (fun _ i _ wr => ∃ k : Nat, i = .int .i64 k ∧ k ≤ s.l.length ∧ (∀ j, j < k → ∀ r, s.l[j]? = some r → r.n ≠ num) ∧ wr = w) (fun _ i _ _ => s.l.length - (intOf i).toNat)
    case atStart => exact ⟨0, rfl, Nat.zero_le _, fun j hj => absurd hj (by omega), rfl⟩
    case round =>
      obtain ⟨k, rfl, hk, hne, rfl⟩ := hrel
      have Hne := Lib.hid hne
      clear hne
      by_cases hlt : k < s.l.length
      · obtain ⟨r, hr⟩ : ∃ r, s.l[k]? = some r := ⟨s.l[k], List.getElem?_eq_getElem hlt⟩
        obtain ⟨ch, hc1, ⟨v, hc2, hv⟩, hc3⟩ := H3.out.get hr
        subst hc2
        rcases H2.out.cells with ⟨_, e0, _, _⟩ | ⟨b0, o0, rfl, hb0, hcl⟩
        · omega
        · have q1 : wr.cell? ⟨b0, o0 + k * 4 + 1, none⟩ = some (.int .i64 r.n) := by rw [Nat.add_assoc]; exact (hcl _ _ (hc3 1 (by omega))).1
          have Hr := Lib.hid hr
          clear hcl hc3 hc1 hv hr
          by_cases hn2 : r.n = num
          · have HI := Lib.hid (idxI_at num s.l k r Hr.out hn2 Hne.out)
            have hd : (r.n != num) = false := by simp [hn2]
            clear hn2
            by_cases hL : 65536 < n
            · have e4 : decide (65536 < (n : Int)) = true := decide_eq_true (by omega)
              have e5 : decide (65536 < n) = true := decide_eq_true hL
              have hE : gotE s num n = 4 := by unfold gotE; rw [if_neg HA.out, HI.out, if_neg (by omega), if_pos hL]
              have hS : gotS s num n = s := by unfold gotS; rw [if_neg (by rw [hE]; decide)]
              have HEs := Lib.hid (And.intro hE hS)
              clear hE hS hL
              go_wp2_with (fail)
              go_ret
              exact ⟨by rw [HEs.out.1]; rfl, by rw [HEs.out.2]; exact HRw.out⟩
            · have e4 : decide (65536 < (n : Int)) = false := decide_eq_false (by omega)
              have e5 : decide (65536 < n) = false := decide_eq_false hL
              have hE : gotE s num n = 0 := by unfold gotE; rw [if_neg HA.out, HI.out, if_neg (by omega), if_neg hL]
              have hS : gotS s num n = ⟨s.c, s.key, s.many, s.l.eraseIdx k⟩ := by unfold gotS; rw [if_pos hE, HI.out]; rfl
              have HEs := Lib.hid (And.intro hE hS)
              clear hE hS hL
              have hiw : IntKind.i64.wrap ((k : Int) + 1) = (k : Int) + 1 := IntWalk.i64_in _ (by omega)
              have hc0 := H2.out.2.1
              have b1 : (0 : Int) ≤ (k : Int) := by omega
              have b2 : (k : Int) ≤ (c0 : Int) := by omega
              have b3 : (k : Int) + 1 ≤ (s.l.length : Int) := by omega
              have b4 : (0 : Int) ≤ (k : Int) + 1 := by omega
              have b5 : ((k : Int) + 1).toNat = k + 1 := by omega
              have b6 : k ≤ c0 := by omega
              have b7 : k + 1 ≤ s.l.length := by omega
              obtain ⟨X, hX⟩ : ∃ X, (if c0 = k + 1 then (some (⟨b0, o0, none⟩ : Addr)) else some ⟨b0, o0 + (k + 1) * 4, none⟩) = X := ⟨_, rfl⟩
              have hXr := Arr.rest H2.out (k := k + 1) (by omega)
              rw [hX] at hXr
              have HXr := Lib.hid hXr
              have HUp := Lib.hid (Arr.upto H2.out (k := k) (by omega))
              have hone := lay_one H3.out
              have Ho1 := Lib.hid (show ∀ u ∈ cs0.take (k * 4), u.oneCell' = true from fun u hu => hone u (List.mem_of_mem_take hu))
              have Ho2 := Lib.hid (show ∀ u ∈ cs0.drop ((k + 1) * 4), u.oneCell' = true from fun u hu => hone u (List.mem_of_mem_drop hu))
              have hf3 : wr.frozen? ⟨g, 3, none⟩ = false := by simp [World.frozen?, H1.out]
              clear hXr hone hc0
              go_wp2_with (at_builtin; first
                | (have _q := hA1; refine wpList_append_low rfl _ _ 81 rfl 37 i0 (.agg #[.int .i64 0, .int .i64 0, .slice none 0 0, .int .u64 0]) 4 48 Try.underlying81 hi hz0 hz1 hz2 rfl (by decide) wr.heap.size hz1s A1 k c1 (cs0.take (k * 4)) rfl Ha1.out HA1.out X (s.l.length - (k + 1)) (c0 - (k + 1)) (cs0.drop ((k + 1) * 4)) rfl HX1.out Ho2.out (by unfold maxLen; omega) (by omega) ?_; intro A2 c2 W2 ha2 hb2 hA2; have Ha2 := Lib.hid ha2; have HA2 := Lib.hid hA2; have Hb2 := Lib.hid (Hb1.out.trans hb2); have y4 : W2.cell? ⟨g, 3, none⟩ = some (.slice (some ⟨b0, o0, none⟩) s.l.length c0) := (((Hb1.out.trans hb2).cell (p := ⟨g, 3, none⟩) hgl).trans d3); have y5 : W2.frozen? ⟨g, 3, none⟩ = false := (((Hb1.out.trans hb2).frozen (p := ⟨g, 3, none⟩) hgl).trans hf3); clear ha2 hb2 hA2)
                | (refine wpList_append_low rfl _ _ 81 rfl 37 i0 (.agg #[.int .i64 0, .int .i64 0, .slice none 0 0, .int .u64 0]) 4 48 Try.underlying81 hi hz0 hz1 hz2 rfl (by decide) wr.heap.size (Nat.le_refl _) none 0 0 [] rfl (Arr.nil _ _ _) (fun _ e => (by cases e)) (some ⟨b0, o0, none⟩) k c0 (cs0.take (k * 4)) rfl HUp.out Ho1.out (by unfold maxLen; omega) (by omega) ?_; intro A1 c1 W1 ha1 hb1 hA1; rw [Nat.zero_add] at ha1; rw [List.nil_append] at ha1; have Ha1 := Lib.hid ha1; have HA1 := Lib.hid hA1; have Hb1 := Lib.hid hb1; have hz1s := hb1.size; have HX1 := Lib.hid (HXr.out.kp (Kp.of_below (S := fun _ => False) hb1) (fun _ _ e => e)); have y3 : W1.cell? ⟨g, 3, none⟩ = some (.slice (some ⟨b0, o0, none⟩) s.l.length c0) := ((hb1.cell (p := ⟨g, 3, none⟩) hgl).trans d3); rw [Nat.zero_add]; clear ha1 hb1))
              go_ret
              obtain ⟨Wf, hWf⟩ : ∃ Wf, Wf = W2.setCell ⟨g, 3, none⟩ (.slice A2 (k + (s.l.length - (k + 1))) c2) := ⟨_, rfl⟩
              rw [← hWf]
              have kf : Kp (fun j => j = g) W2 Wf := by rw [hWf]; exact (Kp.refl (fun j => j = g) W2).set (p := ⟨g, 3, none⟩) (fun _ => rfl) _
              have kall : Kp (fun j => j = g) wr Wf := (Kp.of_below (S := fun j => j = g) Hb2.out).trans kf (fun _ _ e => e)
              have hnb : ∀ j, j < wr.heap.size → j = g → NoB wr j := by
                rintro j _ rfl
                exact nob_cells H1.out (by decide)
              have hL := lay_kpR H3.out kall hnb
              have hle : (s.l.eraseIdx k).length = k + (s.l.length - (k + 1)) := by rw [List.length_eraseIdx_of_lt hlt]; omega
              refine ⟨by rw [HEs.out.1]; rfl, ?_⟩
              rw [HEs.out.2]
              refine ⟨A2.map fun a => a.block, ⟨A2, c2, cs0.take (k * 4) ++ cs0.drop ((k + 1) * 4), ?_, ?_, ?_, rfl⟩, kall.mono (fun j _ e => .inl e), .inr (fun j ej => ?_)⟩
              · show Wf.heap[g]? = some (.cells #[.int .i64 s.c, .int .u64 s.key, .int .i64 s.many, .slice A2 (s.l.eraseIdx k).length c2] 83 (0, 0))
                rw [hle, hWf]
                simp [World.setCell, Array.getElem?_modify, (Hb2.out.block g hgl).trans H1.out]
              · show Arr Wf 37 4 A2 (s.l.eraseIdx k).length c2 _
                rw [hle]
                exact Ha2.out.kp kf (fun a ea e => by have := HA2.out a ea; omega)
              · show Lay 4 (RqE Wf) (s.l.eraseIdx k) _
                rw [List.eraseIdx_eq_take_drop_succ]
                exact (hL.take k).append (hL.drop (k + 1))
              · cases hA2' : A2 with
                | none => rw [hA2'] at ej; cases ej
                | some a => rw [hA2'] at ej; cases ej; exact HA2.out a hA2'
          · have hd : (r.n != num) = true := by simp [hn2]
            have Hn := Lib.hid hn2
            clear hn2
            go_wp2_with (fail)
            go_roundw
            case rel =>
              refine ⟨k + 1, by go_num, by omega, fun j hj x hx => ?_, (by first | rfl | trivial)⟩
              by_cases hjk : j = k
              · subst hjk
                rw [Hr.out] at hx
                cases hx
                exact Hn.out
              · exact Hne.out j (by omega) x hx
            case measure => simp [intOf]; omega
      · have HI := Lib.hid (idxI_none num s.l (fun j x hx => Hne.out j (by have := (List.getElem?_eq_some_iff.1 hx).1; omega) x hx))
        have hE : gotE s num n = 8 := by unfold gotE; rw [if_neg HA.out, HI.out, if_pos (by decide)]
        have hS : gotS s num n = s := by unfold gotS; rw [if_neg (by rw [hE]; decide)]
        have HEs := Lib.hid (And.intro hE hS)
        clear hE hS
        go_wp2_with (fail)
        go_ret
        exact ⟨by rw [HEs.out.1]; rfl, by rw [HEs.out.2]; exact HRw.out⟩
end Go.Proofs.Ytajdkcpcgfipbaa
