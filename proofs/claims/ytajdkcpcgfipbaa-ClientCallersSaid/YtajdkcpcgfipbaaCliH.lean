/- Package client: Again. -/
import Derived.Test.YtajdkcpcgfipbaaCliG
import Derived.Test.YtajdkcpcgfipbaaArrB
namespace Go.Proofs.Ytajdkcpcgfipbaa
open Go.RowKit Go.Wm

theorem RqE.one {w : World} {r : Rq} {ch : List Value} (h : RqE w r ch) : ∀ v ∈ ch, v.oneCell' = true := by
  obtain ⟨v, rfl, hv⟩ := h
  obtain ⟨A, c, rfl, _⟩ := hv.rd
  simp [Value.oneCell']
theorem lay_one {w : World} : ∀ {l : List Rq} {cs : List Value}, Lay 4 (RqE w) l cs → ∀ v ∈ cs, v.oneCell' = true
  | [], cs, h => by simp [Lay] at h; subst h; simp
  | x :: xs, cs, ⟨ch, rest, e, _, he, hr⟩ => by
    intro v hv
    rw [e] at hv
    rcases List.mem_append.1 hv with hv | hv
    · exact he.one v hv
    · exact lay_one hr v hv
theorem int_toNat_len (n : Nat) : ((n : Int)).toNat = n := Int.toNat_natCast n
set_option maxRecDepth 100000 in
set_option maxHeartbeats 4000000 in
theorem Again_any (g : Nat) (q : Option Nat) (s : Cal) (hs : s.l.length ≤ 16) (hb : ∀ r ∈ s.l, r.b.length ≤ 65536) (w : World) (h : CalAt w g q s) :
    Calls Try.prog 59 #[.pointer (some ⟨g, 0, none⟩)] w fun e w' => (∃ G cs, e = .returned (.slice (some ⟨G, 0, none⟩) s.l.length s.l.length) ∧ w.heap.size ≤ G ∧ w'.heap[G]? = some (.cells cs.toArray 32 (0, 0)) ∧ Lay 4 (RqE w') s.l cs) ∧ Below w.heap.size w w' := by
  obtain ⟨A0, c0, cs0, h1, h2, h3, h4⟩ := h
  obtain ⟨i0, hi, hz0, hz1, hz2⟩ := info_parts info_req
  obtain ⟨len, hlen⟩ : ∃ len, len = s.l.length := ⟨_, rfl⟩
  rw [← hlen] at h1 h2 hs ⊢
  have hc3 : w.cell? ⟨g, 3, none⟩ = some (.slice A0 len c0) := by simp [World.cell?, h1]
  have hgl := (Array.getElem?_eq_some_iff.1 h1).1
  have hmk : ∀ W : World, (Instr.makeSlice 91 (.int .i64 (len : Int)) (.int .i64 (len : Int))).run Try.prog W = .ok (.slice (some ⟨W.heap.size, 0, none⟩) len len) (W.alloc (.cells (madeCells #[.int .i64 0, .int .i64 0, .slice none 0 0, .int .u64 0] (len * 4)) 32)) := fun W => by
    have := run_make (P := Try.prog) W 91 32 i0 _ Try.underlying91 hi hz0 .i64 .i64 (len : Int) (len : Int) (by omega) (Int.le_refl _) (by rw [hz2]; omega) (by omega)
    rw [hz1, Int.toNat_natCast] at this
    exact this
  obtain ⟨M, hM⟩ : ∃ M, M = madeCells #[.int .i64 0, .int .i64 0, .slice none 0 0, .int .u64 0] (len * 4) := ⟨_, rfl⟩
  have hMs : M.size = len * 4 := by rw [hM]; exact size_madeCells _ _
  rw [← hM] at hmk
  have hB1 : Below w.heap.size w (w.alloc (.cells M 32)) := (Below.refl _ w).alloc (Nat.le_refl _) _
  have H21 := Lib.hid (h2.kp (Kp.of_below (S := fun _ => False) hB1) (fun _ _ e => e))
  have HL31 := Lib.hid (lay_kpR h3 (Kp.of_below (S := fun _ => False) hB1) (fun _ _ e => e.elim))
  have Hhb := Lib.hid hb
  have HB1 := Lib.hid hB1
  have Hlen := Lib.hid hlen
  have HMs := Lib.hid hMs
  have hisz : (Try.prog.info? 32).map (·.size) = some 4 := by rw [hi]; simp [hz1]
  have Hisz := Lib.hid hisz
  clear h1 h2 h3 h4 hM hb hB1 hlen hMs hisz
  go_enter Try.func59, Try.ntmps59
  go_wp2_with ((with_reducible refine wpList_copy_arr rfl _ _ 91 rfl 32 4 Try.underlying91 Hisz.out w.heap.size len len M rfl (heap_alloc_new w _) HMs.out A0 c0 cs0 rfl H21.out (lay_one HL31.out) ?_); intro W2 hW2 hk2; have HW2 := Lib.hid hW2; have Hk2 := Lib.hid hk2; clear hW2 hk2)
  have hB2 : Below w.heap.size w W2 := HB1.out.trans (Hk2.out.below (by simp) (fun k e => by subst e; exact Nat.le_refl _))
  have hL2 : Lay 4 (RqE W2) s.l cs0 := lay_kpR HL31.out Hk2.out (fun j _ e => by subst e; exact nob_cells (heap_alloc_new w _) (by decide))
  have HB2 := Lib.hid hB2
  have HL2 := Lib.hid hL2
  clear hB2 hL2
  obtain ⟨G, hG⟩ : ∃ G, G = w.heap.size := ⟨_, rfl⟩
  have HG := Lib.hid hG
  rw [← hG]
  clear hG
  go_loopw [4, 19] (fun _ v wr => ∃ (k : Nat) (cs : List Value), v = .int .i64 k ∧ k ≤ len ∧ wr.heap[G]? = some (.cells cs.toArray 32 (0, 0)) ∧ Lay 4 (RqE wr) s.l cs ∧ Below G w wr) (fun _ v _ => len - (intOf v).toNat)
  case atStart => exact ⟨0, cs0, rfl, by omega, by rw [HG.out]; exact HW2.out, HL2.out, by rw [HG.out]; exact HB2.out⟩
  case round =>
    obtain ⟨k, cs, rfl, hk, hcs, hL, hB⟩ := hrel
    have HL := Lib.hid hL
    have HB := Lib.hid hB
    have Hcs := Lib.hid hcs
    clear hL hB hcs
    by_cases hlt : k < len
    · have hd : decide ((k : Int) < (len : Int)) = true := decide_eq_true (by omega)
      obtain ⟨x, hx⟩ : ∃ x, s.l[k]? = some x := ⟨_, List.getElem?_eq_getElem (by rw [← Hlen.out]; exact hlt)⟩
      obtain ⟨ch, g1, ⟨v, rfl, hv⟩, g3⟩ := HL.out.get hx
      have hxb := Hhb.out x (List.mem_of_getElem? hx)
      obtain ⟨Av, cv, rfl, hrv, hcv⟩ := hv.rd
      have hll := HL.out.length
      have e2 : cs[k * 4 + 2]? = some (.slice Av x.b.length cv) := by rw [g3 2 (by omega)]; rfl
      have c2 : wr.cell? ⟨G, k * 4 + 2, none⟩ = some (.slice Av x.b.length cv) := by simp [World.cell?, Hcs.out, e2]
      have hk0 : (0 : Int) ≤ (k : Int) := by omega
      have hk1 : (k : Int) < (len : Int) := by omega
      have Hrv := Lib.hid hrv
      have Hx := Lib.hid hx
      have hGl := (Array.getElem?_eq_some_iff.1 Hcs.out).1
      clear hv hrv g3 g1 e2 hll hx
      go_wp2_with (fail)
      refine (Clone_any Av cv x.b (by omega) wr Hrv.out).mono ?_
      rintro e W3 ⟨⟨v3, rfl, ho3⟩, hb3⟩
      obtain ⟨A3, c3, rfl⟩ := own_slice' ho3
      have hcs3 := (hb3.block G hGl).trans Hcs.out
      have hll := HL.out.length
      have c23 : W3.cell? ⟨G, k * 4 + 2, none⟩ = some (.slice Av x.b.length cv) := (hb3.cell (p := ⟨G, k * 4 + 2, none⟩) hGl).trans c2
      have f23 : W3.frozen? ⟨G, k * 4 + 2, none⟩ = false := by simp [World.frozen?, hcs3]
      have Ho3 := Lib.hid (show ByS W3 (.slice A3 x.b.length c3) x.b from ⟨_, ho3⟩)
      have Hcs3 := Lib.hid hcs3
      have Hb3 := Lib.hid hb3
      clear ho3 hcs3 hb3 c2 hll
      go_wp2_with (fail)
      go_roundw
      case rel =>
        have kf : Kp (fun j => j = G) W3 (W3.setCell ⟨G, k * 4 + 2, none⟩ (.slice A3 x.b.length c3)) := (Kp.refl (fun j => j = G) W3).set (p := ⟨G, k * 4 + 2, none⟩) (fun _ => rfl) _
        have hnb : ∀ j, j < W3.heap.size → j = G → NoB W3 j := fun j _ e => by subst e; exact nob_cells Hcs3.out (by decide)
        refine ⟨k + 1, cs.set (k * 4 + 2) (.slice A3 x.b.length c3), by go_num, by omega, ?_, ?_, ?_⟩
        · simp [World.setCell, Array.getElem?_modify, Hcs3.out]
        · have := (lay_kpR (lay_kpR HL.out (Kp.of_below (S := fun _ => False) Hb3.out) (fun _ _ e => e.elim)) kf hnb).setCell (i := k) (j := 2) (x := x) (y := x) (u := .slice A3 x.b.length c3) Hx.out (by omega) (fun ch hch _ => by obtain ⟨v, rfl, _⟩ := hch; exact ⟨_, rfl, Ho3.out.kp kf hnb⟩)
          obtain ⟨hx1, hx2⟩ := List.getElem?_eq_some_iff.1 Hx.out
          rwa [show s.l.set k x = s.l by rw [← hx2]; exact List.set_getElem_self hx1] at this
        · exact (HB.out.trans (Hb3.out.mono (Nat.le_of_lt hGl))).setCell (p := ⟨G, k * 4 + 2, none⟩) (Nat.le_refl _) _
      case measure => simp [intOf]; omega
    · obtain rfl : k = len := by omega
      have hd : decide ((k : Int) < (k : Int)) = false := decide_eq_false (by omega)
      go_wp2_with (fail)
      go_ret
      exact ⟨⟨G, cs, rfl, Nat.le_of_eq HG.out.symm, Hcs.out, HL.out⟩, by rw [← HG.out]; exact HB.out⟩
end Go.Proofs.Ytajdkcpcgfipbaa
