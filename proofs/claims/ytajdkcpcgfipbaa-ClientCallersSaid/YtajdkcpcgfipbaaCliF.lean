/- Package client: Answer. -/
import Derived.Test.YtajdkcpcgfipbaaCliE
namespace Go.Proofs.Ytajdkcpcgfipbaa
open Go.RowKit Go.Wm

theorem SsnTo.still {B : Nat} {w w' : World} {g : Nat} {σ : Srv} {F : Nat → Prop} {n : Nat} (h : Ssn B w g σ F n) (hb : Below w.heap.size w w') : SsnTo B w w' g σ F n :=
  ⟨F, h.below hb, Kp.of_below hb, fun _ hk => .inl hk⟩
set_option maxRecDepth 100000 in
set_option maxHeartbeats 4000000 in
theorem Answer_any (B : Nat) (g n : Nat) (σ : Srv) (F : Nat → Prop) (c x : Int) (b : List Int) (A : Option Addr) (cb : Nat) (hc : I64 c) (hb : Byt b) (hl : b.length ≤ 140737488351232) (w : World) (h : Ssn B w g σ F n) (hr : Rd .u8 w A b) :
    Calls Try.prog 33 #[.pointer (some ⟨g, 0, none⟩), .int .i64 c, .int .i64 x, .slice A b.length cb] w fun e w' => e = .returned (.int .i64 (ansE σ c x b)) ∧ SsnTo B w w' g (ansS σ c x b) F n := by
  have Hh := Lib.hid h
  have Hb := Lib.hid hb
  have Hr := Lib.hid hr
  obtain ⟨h1, hg, bm, m, p, q, h2, h3, h4, h5, h6, h7⟩ := h
  have hc0 : w.cell? ⟨g, 0, none⟩ = some (.map (some bm)) := by simp [World.cell?, h2]
  have hlk := h3.lookup Try.underlying3 Try.underlying110 (zero_sesp w) hc
  rw [h5 c hc] at hlk
  have H1 := Lib.hid h1
  have H2 := Lib.hid h2
  have H3 := Lib.hid h3
  have H5 := Lib.hid h5
  have H6 := Lib.hid h6
  have H7 := Lib.hid h7
  clear h1 h2 h3 h5 h6 h7 hb hr
  cases hs : σ c with
  | none =>
    have HE := Lib.hid (show ansE σ c x b = 7 by simp [ansE, hs])
    have HS := Lib.hid (show ansS σ c x b = σ by simp [ansS, HE.out])
    simp only [hs, Option.map_none, Option.getD_none] at hlk
    clear hs
    go_enter Try.func33, Try.ntmps33
    go_wp2_with (fail)
    go_ret
    exact ⟨by rw [HE.out]; rfl, by rw [HS.out]; exact SsnTo.still Hh.out (Below.refl _ _)⟩
  | some s =>
    simp only [hs, Option.map_some, Option.getD_some] at hlk
    obtain ⟨_, hok, hat, hFp, hFq⟩ := H6.out c s hs
    have Hs := Lib.hid hs
    obtain ⟨pc, hpc⟩ : ∃ pc, pc = p c := ⟨_, rfl⟩
    rw [← hpc] at hlk hat hFp
    have Hpc := Lib.hid hpc
    have Hat := Lib.hid hat
    clear hs hpc
    have Hwt := Lib.hid (waits_any pc (q c) s (by have := hok.2.2.1; omega) w hat)
    obtain ⟨A0, c0, cs0, e1, e2, e3, e4⟩ := hat
    have hpl := (Array.getElem?_eq_some_iff.1 e1).1
    have z1 : w.cell? ⟨pc, 1, none⟩ = some (.int .i64 s.last) := by simp [World.cell?, e1]
    have z2 : w.cell? ⟨pc, 2, none⟩ = some (.slice A0 s.l.length c0) := by simp [World.cell?, e1]
    have E1 := Lib.hid e1
    have E2 := Lib.hid e2
    have E3 := Lib.hid e3
    have E4 := Lib.hid e4
    have HE0 := Lib.hid (show ansE σ c x b = if waitsS s = false ∨ x ≠ s.last then 24 else if b.length > 65536 then 4 else 0 by simp only [ansE, Hs.out])
    clear e1 e2 e3 e4
    go_enter Try.func33, Try.ntmps33
    go_wp2_with (fail)
    refine Hwt.out.mono ?_
    rintro e W1 ⟨rfl, mq, hmq⟩
    have hB1 : Below w.heap.size w W1 := by rw [hmq]; exact drewN_below w _
    have y1 := (hB1.cell (p := ⟨pc, 1, none⟩) hpl).trans z1
    have y2 := (hB1.cell (p := ⟨pc, 2, none⟩) hpl).trans z2
    have HB1 := Lib.hid hB1
    have hws := hB1.size
    clear hmq z1 z2 hc0 hlk hB1 Hwt
    cases hwt : waitsS s with
    | false =>
      have HE := Lib.hid (show ansE σ c x b = 24 by rw [HE0.out, if_pos (.inl hwt)])
      have HS := Lib.hid (show ansS σ c x b = σ by simp [ansS, HE.out])
      clear hwt
      go_wp2_with (fail)
      go_ret
      exact ⟨by rw [HE.out]; rfl, by rw [HS.out]; exact SsnTo.still Hh.out HB1.out⟩
    | true =>
    have Hwt := Lib.hid hwt
    clear hwt
    by_cases m1 : x = s.last
    case neg =>
      have HE := Lib.hid (show ansE σ c x b = 24 by rw [HE0.out, if_pos (.inr m1)])
      have HS := Lib.hid (show ansS σ c x b = σ by simp [ansS, HE.out])
      have hd : (x != s.last) = true := by simpa using m1
      go_wp2_with (fail)
      go_ret
      exact ⟨by rw [HE.out]; rfl, by rw [HS.out]; exact SsnTo.still Hh.out HB1.out⟩
    have hd : (x != s.last) = false := by simpa using m1
    have HE1 := Lib.hid (show ansE σ c x b = if b.length > 65536 then 4 else 0 by rw [HE0.out, if_neg (by rintro (e | e); rw [Hwt.out] at e; cases e; exact e m1)])
    have Hm1 := Lib.hid m1
    clear m1
    by_cases m2 : 65536 < b.length
    · have hd2 : decide (65536 < (b.length : Int)) = true := decide_eq_true (by omega)
      have hdn2 : decide (65536 < b.length) = true := decide_eq_true m2
      have HE := Lib.hid (show ansE σ c x b = 4 by rw [HE1.out, if_pos m2])
      have HS := Lib.hid (show ansS σ c x b = σ by simp [ansS, HE.out])
      go_wp2_with (fail)
      go_ret
      exact ⟨by rw [HE.out]; rfl, by rw [HS.out]; exact SsnTo.still Hh.out HB1.out⟩
    have hd2 : decide (65536 < (b.length : Int)) = false := decide_eq_false (by omega)
    have hdn2 : decide (65536 < b.length) = false := decide_eq_false m2
    have HE := Lib.hid (show ansE σ c x b = 0 by rw [HE1.out, if_neg m2])
    have HS := Lib.hid (show ansS σ c x b = updS σ c (ansNew s b) by simp [ansS, HE.out, Hs.out])
    have hne : s.l ≠ [] := by intro e; have := Hwt.out; rw [waitsS, e] at this; cases this
    obtain ⟨k, hk⟩ : ∃ k, s.l.length = k + 1 := ⟨s.l.length - 1, by have := List.length_pos_iff.2 hne; omega⟩
    obtain ⟨o, ho⟩ : ∃ o, s.l[k]? = some o := ⟨_, List.getElem?_eq_getElem (by omega)⟩
    obtain ⟨ch, g1, ⟨v, rfl, hv⟩, g3⟩ := E3.out.get ho
    obtain ⟨gb, off, hA0, q1, _⟩ := E2.out.cell (j := k * 3 + 1) (u := .bool o.ans) (by rw [g3 1 (by omega)]; rfl)
    rw [hk, hA0] at y2
    rw [← Nat.add_assoc] at q1
    have hk17 : k ≤ 15 := by have := hok.2.2.1; omega
    have hidx : IntKind.i64.wrap (k : Int) = k := IntWalk.i64_in _ (by omega)
    have hk0 : (0 : Int) ≤ (k : Int) := by omega
    have Hk := Lib.hid hk
    have Ho := Lib.hid ho
    have HA0 := Lib.hid hA0
    clear hk ho hv g3 g1 hne hA0
    go_wp2_with (fail)
    go_quiet (fail)
    go_wp2_with (fail)
    obtain ⟨W2, hW2⟩ : ∃ W2, W2 = W1.drewN nq := ⟨_, rfl⟩
    rw [← hW2]
    have HB2 := Lib.hid (show Below w.heap.size w W2 by rw [hW2]; exact HB1.out.trans ((drewN_below W1 _).mono hws))
    clear hW2 y1 y2
    refine (Clone_any A cb b (by omega) W2 (Hr.out.below HB2.out (Nat.le_refl _))).mono ?_
    rintro e W3 ⟨⟨v30, rfl, ho3⟩, hb3⟩
    obtain ⟨A3, c3, rfl⟩ := own_slice' ho3
    have hB3 := HB2.out.trans (hb3.mono HB2.out.size)
    have HB3 := Lib.hid hB3
    have hA3 := E2.out.kp (Kp.of_below (S := fun _ => False) hB3) (fun _ _ e => e)
    have hL3 := lay_kpO E3.out (Kp.of_below (S := fun _ => False) hB3) (fun _ _ e => e.elim)
    have h13 := (hB3.block pc hpl).trans E1.out
    have hlen3 := hL3.length
    have hA3' := hA3
    rw [HA0.out] at hA3'
    obtain ⟨ch, g1, ⟨v, rfl, hv⟩, g3⟩ := hL3.get Ho.out
    obtain ⟨_, _, ee, r1, f1⟩ := hA3'.cell (j := k * 3 + 1) (u := .bool o.ans) (by rw [g3 1 (by omega)]; rfl)
    cases ee
    obtain ⟨_, _, ee, r2, f2⟩ := hA3'.cell (j := k * 3 + 2) (u := v) (by rw [g3 2 (by omega)]; rfl)
    cases ee
    rw [← Nat.add_assoc] at r1 r2 f1 f2
    have Ho3 := Lib.hid ho3
    have H13 := Lib.hid h13
    have HA3 := Lib.hid hA3'
    have HL3 := Lib.hid hL3
    have Hlen3 := Lib.hid hlen3
    clear ho3 hb3 hB3 hA3 hA3' hL3 h13 hlen3 g3 g1 hv q1
    go_wp2_with (fail)
    go_ret
    refine ⟨by rw [HE.out]; rfl, ?_⟩
    rw [HS.out]
    have hk := Hk.out
    obtain ⟨_, hgbl, cur, hgb⟩ := HA3.out.blk _ rfl
    have kf : Kp (fun j => j = gb) W3 ((W3.setCell ⟨gb, off + k * 3 + 1, none⟩ (.bool true)).setCell ⟨gb, off + k * 3 + 2, none⟩ (.slice A3 b.length c3)) :=
      ((Kp.refl (fun j => j = gb) W3).set (p := ⟨gb, off + k * 3 + 1, none⟩) (fun _ => rfl) _).set (p := ⟨gb, off + k * 3 + 2, none⟩) (fun _ => rfl) _
    have hne : ¬ pc = gb := by rintro rfl; have := H13.out; rw [hgb] at this; cases this
    have hnb : ∀ j, j < W3.heap.size → j = gb → NoB W3 j := fun j _ e => by subst e; exact nob_cells hgb (by decide)
    have hv3 : ByS W3 (.slice A3 b.length c3) b := ⟨_, Ho3.out⟩
    have hLf := lay_kpO HL3.out kf hnb
    have hLf1 := hLf.setCell (i := k) (j := 1) (x := o) (y := (⟨o.h, true, o.a⟩ : Old)) (u := .bool true) Ho.out (by omega) (fun ch hch _ => by obtain ⟨v, rfl, hv⟩ := hch; exact ⟨v, rfl, hv⟩)
    have hLf2 := hLf1.setCell (i := k) (j := 2) (x := (⟨o.h, true, o.a⟩ : Old)) (y := (⟨o.h, true, b⟩ : Old)) (u := (.slice A3 b.length c3)) (by rw [List.getElem?_set_self (by omega)]) (by omega) (fun ch hch _ => by obtain ⟨v, rfl, hv⟩ := hch; exact ⟨.slice A3 b.length c3, rfl, hv3.kp kf hnb⟩)
    rw [List.set_set] at hLf2
    have hAf := (HA3.out.set (j := k * 3 + 1) rfl (.bool true)).set (j := k * 3 + 2) rfl (.slice A3 b.length c3)
    have hgl : s.l.getLast? = some o := by rw [List.getLast?_eq_getElem?, hk]; exact Ho.out
    have en : ansNew s b = ⟨s.key, s.last, s.l.set k ⟨o.h, true, b⟩⟩ := by simp [ansNew, hgl, hk]
    rw [en]
    refine ssn_one H1.out hg H2.out H3.out h4 H5.out H6.out H7.out Hs.out (qc := some gb) ?_ ?_ ⟨some ⟨gb, off, none⟩, c0, _, ?_, ?_, hLf2, rfl⟩ ?_
    · exact (Kp.of_below (S := fun j => j = p c ∨ some gb = some j) HB3.out).trans kf (fun j _ e => .inr (by rw [e]))
    · obtain ⟨o1, o2, o3, o4, o5⟩ := hok
      exact ⟨o1, o2, by simpa using o3, by simpa using o4, fun z hz => by
        rcases List.mem_or_eq_of_mem_set hz with hz | rfl
        · exact o5 z hz
        · exact ⟨by show b.length ≤ 65536; omega, Hb.out⟩⟩
    · rw [← Hpc.out, kf.block pc (Nat.lt_of_lt_of_le hpl HB3.out.size) hne, H13.out, HA0.out, List.length_set]
    · rw [List.length_set]; simpa [Nat.add_assoc] using hAf
    · intro j e
      cases e
      left
      rw [E4.out, HA0.out]; rfl
end Go.Proofs.Ytajdkcpcgfipbaa
