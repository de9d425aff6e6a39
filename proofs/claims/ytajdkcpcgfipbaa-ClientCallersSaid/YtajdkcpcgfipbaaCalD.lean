/- The reference's Caller: Send. -/
import Derived.Test.YtajdkcpcgfipbaaCalC
import Derived.Test.YtajdkcpcgfipbaaCliT
import Derived.Deep.RegionHeld3
import Derived.Deep.RegionLaw
import Derived.Deep.DeepCutAuto
namespace Go.Proofs.Ytajdkcpcgfipbaa
open Go.RowKit Go.Wm

theorem info_rreq : (Try.prog.info? 37).map (fun i => (i.zero, i.size, i.bytes)) = some (some (.agg #[.int .i64 0, .int .i64 0, .slice none 0 0, .int .u64 0]), 4, 48) := by kernel_rfl
/-- A CLIENT's SIDE AT BLOCK g, its open requests in block q -/
def RCalAt (w : World) (g : Nat) (q : Option Nat) (s : Cal) : Prop :=
  ∃ A c cs, w.heap[g]? = some (.cells #[.int .i64 s.c, .int .u64 s.key, .int .i64 s.many, .slice A s.l.length c] 83 (0, 0)) ∧ Arr w 37 4 A s.l.length c cs ∧ Lay 4 (RqE w) s.l cs ∧ q = A.map fun a => a.block
theorem RCalAt.kp {S : Nat → Prop} {w w' : World} {g : Nat} {q : Option Nat} {s : Cal} (h : RCalAt w g q s) (k : Kp S w w') (hp : ¬ S g) (hq : ∀ j, q = some j → ¬ S j) (hS : ∀ j, j < w.heap.size → S j → NoB w j) : RCalAt w' g q s := by
  obtain ⟨A, c, cs, h1, h2, h3, rfl⟩ := h
  exact ⟨A, c, cs, (k.block g (Array.getElem?_eq_some_iff.1 h1).1 hp).trans h1, h2.kp k (fun a ea => hq _ (by rw [ea]; rfl)), lay_kpR h3 k hS, rfl⟩
theorem RCalAt.below {w w' : World} {g : Nat} {q : Option Nat} {s : Cal} (h : RCalAt w g q s) (k : Below w.heap.size w w') : RCalAt w' g q s :=
  h.kp (Kp.of_below (S := fun _ => False) k) (fun e => e) (fun _ _ e => e) (fun _ _ e => e.elim)
theorem RCalAt.new (w : World) (c key : Int) : RCalAt (w.alloc (.cells #[.int .i64 c, .int .u64 key, .int .i64 0, .slice none 0 0] 83)) w.heap.size none ⟨c, key, 0, []⟩ :=
  ⟨none, 0, [], heap_alloc_new w _, Arr.nil _ _ _, rfl, rfl⟩
/-- WHAT A CALL ON A CLIENT's SIDE LEAVES -/
def RCalTo (w w' : World) (g : Nat) (q : Option Nat) (s : Cal) : Prop := ∃ q', RCalAt w' g q' s ∧ Kp (fun k => k = g ∨ q = some k) w w' ∧ (q' = q ∨ ∃ k, q' = some k ∧ w.heap.size ≤ k)
set_option maxRecDepth 100000 in
set_option maxHeartbeats 4000000 in
theorem RSend_full (g : Nat) (q : Option Nat) (s : Cal) (b : List Int) (A : Option Addr) (cb : Nat) (hl : b.length ≤ 140737488351232) (hs : s.l.length ≤ 16) (hf : sendFull s b = true) (w : World) (h : RCalAt w g q s) :
    Calls Try.prog 55 #[.pointer (some ⟨g, 0, none⟩), .slice A b.length cb] w fun e w' => e = .returned (.tuple #[.agg #[.int .i64 0, .int .i64 0, .slice none 0 0, .int .u64 0], .int .i64 4]) ∧ Below w.heap.size w w' := by
  obtain ⟨A0, c0, cs0, h1, h2, h3, h4⟩ := h
  have hc3 : w.cell? ⟨g, 3, none⟩ = some (.slice A0 s.l.length c0) := by simp [World.cell?, h1]
  have hf' : 65536 < b.length ∨ 16 ≤ s.l.length := by simpa [sendFull] using hf
  have hgl := (Array.getElem?_eq_some_iff.1 h1).1
  clear h1 h2 h3 h4 hf
  by_cases b1 : 65536 < b.length
  · have hd : decide (65536 < (b.length : Int)) = true := decide_eq_true (by omega)
    have hdn : decide (65536 < b.length) = true := decide_eq_true b1
    clear hf'
    go_enter Try.func55, Try.ntmps55
    go_wp2_with (fail)
    exact bodyPost_ret (v := .tuple #[.agg #[.int .i64 0, .int .i64 0, .slice none 0 0, .int .u64 0], .int .i64 4]) (by simp [results, Try.results55, go_sem]) rfl ⟨rfl, (Below.refl _ _).alloc (Nat.le_refl _) _⟩
  · have hd : decide (65536 < (b.length : Int)) = false := decide_eq_false (by omega)
    have hdn : decide (65536 < b.length) = false := decide_eq_false b1
    have b2 : 16 ≤ s.l.length := by omega
    have hd2 : decide (16 ≤ (s.l.length : Int)) = true := decide_eq_true (by omega)
    have hdn2 : decide (16 ≤ s.l.length) = true := decide_eq_true b2
    clear hf'
    go_enter Try.func55, Try.ntmps55
    go_wp2_with (fail)
    exact bodyPost_ret (v := .tuple #[.agg #[.int .i64 0, .int .i64 0, .slice none 0 0, .int .u64 0], .int .i64 4]) (by simp [results, Try.results55, go_sem]) rfl ⟨rfl, (Below.refl _ _).alloc (Nat.le_refl _) _⟩
set_option maxRecDepth 100000 in
set_option maxHeartbeats 4000000 in
theorem RSend_any (g : Nat) (q : Option Nat) (s : Cal) (b : List Int) (A : Option Addr) (cb : Nat) (hb : Byt b) (hcb : b.length ≤ cb) (hl : b.length ≤ 140737488351232) (hs : s.l.length ≤ 16) (hm : 0 ≤ s.many ∧ s.many ≤ 1000000) (hf : sendFull s b = false) (w : World) (h : RCalAt w g q s) (hr : ByR w A b) :
    Calls Try.prog 55 #[.pointer (some ⟨g, 0, none⟩), .slice A b.length cb] w fun e w' =>
      (∃ v, e = .returned (.tuple #[.agg #[.int .i64 (sendRq s b).c, .int .i64 (sendRq s b).n, v, .int .u64 (sendRq s b).t], .int .i64 0]) ∧ ByS w' v b) ∧ RCalTo w w' g q (sendS s b) := by
  have Hh := Lib.hid h
  obtain ⟨A0, c0, cs0, h1, h2, h3, h4⟩ := h
  have hc3 : w.cell? ⟨g, 3, none⟩ = some (.slice A0 s.l.length c0) := by simp [World.cell?, h1]
  have hc0 : w.cell? ⟨g, 0, none⟩ = some (.int .i64 s.c) := by simp [World.cell?, h1]
  have hc1 : w.cell? ⟨g, 1, none⟩ = some (.int .u64 s.key) := by simp [World.cell?, h1]
  have hc2 : w.cell? ⟨g, 2, none⟩ = some (.int .i64 s.many) := by simp [World.cell?, h1]
  have hf2 : w.frozen? ⟨g, 2, none⟩ = false := by simp [World.frozen?, h1]
  have hgl := (Array.getElem?_eq_some_iff.1 h1).1
  have hf' : ¬ (65536 < b.length ∨ 16 ≤ s.l.length) := by simpa [sendFull] using hf
  have b1 : ¬ 65536 < b.length := fun e => hf' (.inl e)
  have b2 : ¬ 16 ≤ s.l.length := fun e => hf' (.inr e)
  have hd : decide (65536 < (b.length : Int)) = false := decide_eq_false (by omega)
  have hdn : decide (65536 < b.length) = false := decide_eq_false b1
  have hd2 : decide (16 ≤ (s.l.length : Int)) = false := decide_eq_false (by omega)
  have hdn2 : decide (16 ≤ s.l.length) = false := decide_eq_false b2
  have hmw : IntKind.i64.wrap (s.many + 1) = s.many + 1 := IntWalk.i64_in _ (by omega)
  have H1 := Lib.hid h1
  have H2 := Lib.hid h2
  have H3 := Lib.hid h3
  have H4 := Lib.hid h4
  have Hb := Lib.hid hb
  have Hr := Lib.hid hr
  clear h1 h2 h3 h4 hf hf' hb hr
  go_enter Try.func55, Try.ntmps55
  go_wp2_with (fail)
  obtain ⟨W1, hW1⟩ : ∃ W1, W1 = (w.setCell ⟨g, 2, none⟩ (.int .i64 (s.many + 1))).alloc (.cells #[.int .i64 0, .int .i64 0, .slice none 0 0, .int .u64 0] 37) := ⟨_, rfl⟩
  rw [← hW1]
  have k1 : Kp (fun k => k = g) w W1 := by rw [hW1]; exact ((Kp.refl (fun k => k = g) w).set (p := ⟨g, 2, none⟩) (fun _ => rfl) _).alloc _
  have g1 : W1.heap[g]? = some (.cells #[.int .i64 s.c, .int .u64 s.key, .int .i64 (s.many + 1), .slice A0 s.l.length c0] 83 (0, 0)) := by
    rw [hW1, ((Below.refl _ (w.setCell ⟨g, 2, none⟩ (.int .i64 (s.many + 1)))).alloc (Nat.le_refl _) _).block g (by simpa [World.setCell] using hgl)]
    simp [World.setCell, Array.getElem?_modify, H1.out]
  have r1 : W1.heap[w.heap.size]? = some (.cells #[.int .i64 0, .int .i64 0, .slice none 0 0, .int .u64 0] 37 (0, 0)) := by
    have := heap_alloc_new (w.setCell ⟨g, 2, none⟩ (.int .i64 (s.many + 1))) (.cells #[.int .i64 0, .int .i64 0, .slice none 0 0, .int .u64 0] 37)
    rw [hW1]; simpa [World.setCell] using this
  have hz1 : W1.heap.size = w.heap.size + 1 := by rw [hW1]; simp [World.setCell]
  have x0 : W1.cell? ⟨g, 0, none⟩ = some (.int .i64 s.c) := by simp [World.cell?, g1]
  have x1 : W1.cell? ⟨g, 1, none⟩ = some (.int .u64 s.key) := by simp [World.cell?, g1]
  have x2 : W1.cell? ⟨g, 2, none⟩ = some (.int .i64 (s.many + 1)) := by simp [World.cell?, g1]
  have hgl1 : g < W1.heap.size := by omega
  have hr1 : Rd .u8 W1 A b := (Hr.out.kp k1 (fun j _ e => by subst e; exact nob_cells H1.out (by decide))).1
  have HS : ∀ W', Below W1.heap.size W1 W' → Below W1.heap.size W1 W' ∧ W'.cell? ⟨g, 0, none⟩ = some (.int .i64 s.c) ∧ W'.cell? ⟨g, 1, none⟩ = some (.int .u64 s.key) ∧ W'.cell? ⟨g, 2, none⟩ = some (.int .i64 (s.many + 1)) := fun W' hB =>
    ⟨hB, (hB.cell (p := ⟨g, 0, none⟩) hgl1).trans x0, (hB.cell (p := ⟨g, 1, none⟩) hgl1).trans x1, (hB.cell (p := ⟨g, 2, none⟩) hgl1).trans x2⟩
  have HC : ∀ W', Below W1.heap.size W1 W' → Calls Try.prog 20 #[.slice A b.length cb, .int .i64 b.length] W' fun e w' => (∃ A' c', e = .returned (.slice A' b.length c') ∧ ByS w' (.slice A' b.length c') b) ∧ Below W'.heap.size W' w' ∧ Below W1.heap.size W1 w' := fun W' hB => by
    have hF := Few_any A cb b b.length hcb (by omega) (by omega) W' (hr1.below hB (Nat.le_refl _))
    rw [List.take_length] at hF
    exact hF.mono fun e w' ⟨⟨v, he, ho⟩, hb'⟩ => by
      obtain ⟨A', c', rfl⟩ := own_slice' ho
      exact ⟨⟨A', c', he, ⟨_, ho⟩⟩, hb', hB.trans (hb'.mono hB.size)⟩
  obtain ⟨tg, htg⟩ : ∃ tg, tg = tagI s.key s.c (s.many + 1) b := ⟨_, rfl⟩
  have HT : ∀ W', Below W1.heap.size W1 W' → Calls Try.prog 37 #[.int .u64 s.key, .int .i64 s.c, .int .i64 (s.many + 1), .slice A b.length cb] W' fun e w' => e = .returned (.int .u64 tg) ∧ Below W'.heap.size W' w' ∧ Below W1.heap.size W1 w' := fun W' hB => by
    rw [htg]
    exact (RTag_any s.key s.c (s.many + 1) A cb b Hb.out (by omega) W' (hr1.below hB (Nat.le_refl _))).mono fun e w' ⟨he, hb'⟩ => ⟨he, hb', hB.trans (hb'.mono hB.size)⟩
  have HS' := Lib.hid HS
  have HC' := Lib.hid HC
  have HT' := Lib.hid HT
  have Htg := Lib.hid htg
  have K1 := Lib.hid k1
  have G1 := Lib.hid g1
  have R1 := Lib.hid r1
  have Hz1 := Lib.hid hz1
  clear HS HC HT htg hr1 x0 x1 x2 hz1 r1 g1 k1 hW1 hc0 hc1 hc2 hc3 hf2 hd hdn hd2 hdn2 hmw
  go_cut [6] (fun s6 wx => ∃ rb AF cF, s6 = .pointer (some ⟨rb, 0, none⟩) ∧ wx.heap[rb]? = some (.cells #[.int .i64 s.c, .int .i64 (s.many + 1), .slice AF b.length cF, .int .u64 tg] 37 (0, 0)) ∧ W1.heap.size ≤ rb ∧ ByS wx (.slice AF b.length cF) b ∧ Below W1.heap.size W1 wx)
  case first =>
    go_region_held3 (fun W' => Below W1.heap.size W1 W' ∧ W'.cell? ⟨g, 0, none⟩ = some (.int .i64 s.c) ∧ W'.cell? ⟨g, 1, none⟩ = some (.int .u64 s.key) ∧ W'.cell? ⟨g, 2, none⟩ = some (.int .i64 (s.many + 1))) (first | assumption | exact HS'.out _ (Below.refl _ _).drew | exact HS'.out _ (by assumption) | exact HS'.out _ (Below.alloc (by assumption) (Below.size (by assumption)) _) | exact HS'.out _ ((Below.refl _ W1).alloc (Nat.le_refl _) _).drew | exact HS'.out _ (below_set4 (by assumption) (Below.size (by assumption))) | exact HS'.out _ (below_set4 (by assumption) (Nat.le_refl _))) (first | (go_at_call 20; refine (HC'.out _ (And.left (by assumption))).mono ?_; rintro e wF ⟨⟨AF, cF, rfl, hoF⟩, hbF, hSF⟩; have bF := bcell hbF) | (go_at_call 37; refine (HT'.out _ (And.left (by assumption))).mono ?_; rintro e wT ⟨rfl, hbT, hST⟩; have bT := bcell hbT))
    · go_wp2_with (fail)
      go_meet
      exact ⟨_, AF, cF, rfl, heap_alloc_new wT _, hST.size, hoF.kp (Kp.of_below (S := fun _ => False) (hbT.trans (((Below.refl _ wT).alloc (Nat.le_refl _) _).mono hbT.size))) (fun _ _ e => e.elim), hST.alloc hST.size _⟩
    · go_wp2_with (fail)
      go_meet
      have hz := (hbT.block wF.heap.size (by simp)).trans (heap_alloc_new wF _)
      exact ⟨_, AF, cF, rfl, heap_set4 hz _ _ _ _, hSF.size, ((hoF.below ((Below.refl _ wF).alloc (Nat.le_refl _) _)).below hbT).set4 hz (by decide), below_set4 hST hSF.size⟩
    · go_wp2_with (fail)
      go_meet
      have hz := (hbT.block W1.heap.size (bF.2.2 _ (by simp))).trans ((hbF.block W1.heap.size (by simp)).trans (heap_alloc_new W1 _))
      exact ⟨_, AF, cF, rfl, heap_set4 hz _ _ _ _, Nat.le_refl _, (hoF.below hbT).set4 hz (by decide), below_set4 hST (Nat.le_refl _)⟩
  case rest =>
    obtain ⟨rb, AF, cF, rfl, hrb, hrb1, hoF, hBx⟩ := hcut
    have hgl1 : g < W1.heap.size := by have := Hz1.out; omega
    have hgc := (hBx.block g hgl1).trans G1.out
    have har1 := H2.out.kp K1.out (fun a ea e => blk_ne_arr H2.out H1.out (by decide) ⟨a, ea, e.symm⟩)
    have harc := har1.kp (Kp.of_below (S := fun _ => False) hBx) (fun _ _ e => e)
    obtain ⟨i0, hi, hz0, hz1, hz2⟩ := info_parts info_rreq
    have c3 : wc.cell? ⟨g, 3, none⟩ = some (.slice A0 s.l.length c0) := by simp [World.cell?, hgc]
    have r0 : wc.cell? ⟨rb, 0, none⟩ = some (.int .i64 s.c) := by simp [World.cell?, hrb]
    have r1 : wc.cell? ⟨rb, 1, none⟩ = some (.int .i64 (s.many + 1)) := by simp [World.cell?, hrb]
    have r2 : wc.cell? ⟨rb, 2, none⟩ = some (.slice AF b.length cF) := by simp [World.cell?, hrb]
    have r3 : wc.cell? ⟨rb, 3, none⟩ = some (.int .u64 tg) := by simp [World.cell?, hrb]
    have HArr := Lib.hid (show ∀ W', Below wc.heap.size wc W' → Arr W' 37 4 A0 s.l.length c0 cs0 from fun W' hB => harc.kp (Kp.of_below (S := fun _ => False) hB) (fun _ _ e => e))
    have hsl : s.l.length ≤ 15 := by omega
    have hgcl := (Array.getElem?_eq_some_iff.1 hgc).1
    have hrbl := (Array.getElem?_eq_some_iff.1 hrb).1
    have HoF := Lib.hid hoF
    have HBx := Lib.hid hBx
    have Hgc := Lib.hid hgc
    have Hrb := Lib.hid hrb
    have Harc := Lib.hid harc
    obtain ⟨len, hlen⟩ : ∃ len, len = s.l.length := ⟨_, rfl⟩
    rw [← hlen] at HArr c3 hsl Hgc Harc
    have Hlen := Lib.hid hlen
    clear hoF hBx hgc hrb harc har1 hlen
    go_wp2_with (fail)
    go_region_law (refine step_append_arr rfl _ _ 81 rfl 37 i0 (.agg #[.int .i64 0, .int .i64 0, .slice none 0 0, .int .u64 0]) 4 48 Try.underlying81 hi hz0 hz1 hz2 rfl (by decide) A0 len c0 cs0 rfl (HArr.out _ (by first | exact (Below.refl _ _).drew.alloc (Nat.le_refl _) _ | exact ((Below.refl _ _).alloc (Nat.le_refl _) _).drew | exact (Below.refl _ _).alloc (Nat.le_refl _) _)) ⟨wc.heap.size, 0, none⟩ 1 1 [.int .i64 s.c, .int .i64 (s.many + 1), .slice AF b.length cF, .int .u64 tg] rfl rfl (World.news_of_block (heap_alloc_new wc _)) (by simp [Value.oneCell']) (by unfold maxLen; omega) (by omega) (by omega) ?_; intro g8 o8 c8 W8 har hkp hg8; have h8 := (after_append hkp (by first | exact (Below.refl _ _).drew.alloc (Nat.le_refl _) _ | exact ((Below.refl _ _).alloc (Nat.le_refl _) _).drew | exact (Below.refl _ _).alloc (Nat.le_refl _) _) Harc.out Hgc.out (by decide) hg8); have c8c : W8.cell? ⟨g, 3, none⟩ = some (.slice A0 len c0) := (by simp [World.cell?, h8]); have f8c : W8.frozen? ⟨g, 3, none⟩ = false := (by simp [World.frozen?, h8]); have Har := Lib.hid har; have Hkp := Lib.hid hkp; have Hg8 := Lib.hid hg8; have H8 := Lib.hid h8; clear har hkp hg8 h8)
    all_goals
      obtain ⟨W9, hW9⟩ : ∃ W9, W9 = W8.setCell ⟨g, 3, none⟩ (.slice (some ⟨g8, o8, none⟩) (len + 1) c8) := ⟨_, rfl⟩
      rw [← hW9]
      have HW9 := Lib.hid hW9
      have hApp : ∃ W', Below wc.heap.size wc W' ∧ Kp (fun k => k = g8) W' W8 ∧ ((∃ a0, A0 = some a0 ∧ g8 = a0.block) ∨ g8 = W'.heap.size) := by
        refine ⟨_, ?_, Hkp.out, Hg8.out⟩
        first | exact (Below.refl _ _).drew.alloc (Nat.le_refl _) _ | exact ((Below.refl _ _).alloc (Nat.le_refl _) _).drew | exact (Below.refl _ _).alloc (Nat.le_refl _) _
      have HApp := Lib.hid hApp
      clear hW9 hApp c8c f8c r0 r1 r2 r3 c3
      obtain ⟨Wp, hBp, hkp, hg8⟩ := HApp.out
      have hz1 := Hz1.out
      have hbx := HBx.out.size
      have h8k : ∀ k, w.heap.size ≤ k → k < wc.heap.size → k ≠ g8 := by
        rintro k hk1 hk2 rfl
        rcases hg8 with ⟨a0, ea, e⟩ | e
        · have := (H2.out.blk a0 ea).2.1; omega
        · have := hBp.size; omega
      have h8e : ∀ k, w.heap.size ≤ k → k < wc.heap.size → W9.heap[k]? = wc.heap[k]? := fun k hk1 hk2 => by
        rw [HW9.out, Below.heap_setCell _ _ _ _ (show k ≠ g by omega), hkp.block k (Nat.lt_of_lt_of_le hk2 hBp.size) (h8k k hk1 hk2), hBp.block k hk2]
      have hrb9 := (h8e rb (by omega) hrbl).trans Hrb.out
      have hr09 := (h8e w.heap.size (Nat.le_refl _) (by omega)).trans ((HBx.out.block w.heap.size (by omega)).trans R1.out)
      have hg9 : W9.heap[g]? = some (.cells #[.int .i64 s.c, .int .u64 s.key, .int .i64 (s.many + 1), .slice (some ⟨g8, o8, none⟩) (len + 1) c8] 83 (0, 0)) := by rw [HW9.out]; simp [World.setCell, Array.getElem?_modify, H8.out]
      have hBw9 : Kp (fun k => k = g ∨ k = g8) w W9 := by
        rw [HW9.out]
        exact ((((K1.out.mono (S' := fun k => k = g ∨ k = g8) (fun _ _ e => .inl e)).trans (Kp.of_below (S := fun k => k = g ∨ k = g8) HBx.out) (fun _ _ e => e)).trans (Kp.of_below (S := fun k => k = g ∨ k = g8) hBp) (fun _ _ e => e)).trans hkp (fun _ _ e => .inr e)).set (p := ⟨g, 3, none⟩) (fun _ => .inl rfl) _
      have hnb9 : ∀ j, j < w.heap.size → j = g ∨ j = g8 → NoB w j := by
        rintro j hj (rfl | rfl)
        · exact nob_cells H1.out (by decide)
        · rcases hg8 with ⟨a0, ea, e⟩ | e
          · obtain ⟨_, _, cur, b3⟩ := H2.out.blk a0 ea
            rw [← e] at b3
            exact nob_cells b3 (by decide)
          · have := hBp.size; omega
      have Hnb9 := Lib.hid hnb9
      have hg8q : q = some g8 ∨ w.heap.size ≤ g8 := by
        rcases hg8 with ⟨a0, ea, e⟩ | e
        · left; rw [H4.out, ea, e]; rfl
        · right; have := hBp.size; omega
      have Hg8q := Lib.hid hg8q
      have hr9 : Rd .u8 W9 A b := (Hr.out.kp hBw9 hnb9).1
      have hof9 : ByS W9 (.slice AF b.length cF) b := by
        rw [HW9.out]
        refine ((HoF.out.below hBp).kp hkp ?_).kp ((Kp.refl (fun k => k = g) W8).set (p := ⟨g, 3, none⟩) (fun _ => rfl) _) (fun j _ e => by subst e; exact nob_cells H8.out (by decide))
        rintro j hj rfl
        rcases hg8 with ⟨a0, ea, e⟩ | e
        · obtain ⟨_, hlw, cur, b3⟩ := Harc.out.blk a0 ea
          rw [← e] at b3 hlw
          exact nob_cells ((hBp.block j hlw).trans b3) (by decide)
        · omega
      have har9 : Arr W9 37 4 (some ⟨g8, o8, none⟩) (len + 1) c8 (cs0 ++ [.int .i64 s.c, .int .i64 (s.many + 1), .slice AF b.length cF, .int .u64 tg]) := by
        rw [HW9.out]
        exact Har.out.kp ((Kp.refl (fun k => k = g) W8).set (p := ⟨g, 3, none⟩) (fun _ => rfl) _) (fun a ea e => blk_ne_arr Har.out H8.out (by decide) ⟨a, ea, e.symm⟩)
      have Hr9 := Lib.hid hr9
      have Hof9 := Lib.hid hof9
      have Har9 := Lib.hid har9
      have HBw9 := Lib.hid hBw9
      have hrb9l := (Array.getElem?_eq_some_iff.1 hrb9).1
      have hr09l := (Array.getElem?_eq_some_iff.1 hr09).1
      have Hrb9 := Lib.hid hrb9
      have Hr09 := Lib.hid hr09
      have Hg9 := Lib.hid hg9
      have H8k := Lib.hid h8k
      clear h8e h8k hof9 har9 hr9 hnb9 hg8q hBw9 hrb9 hr09 hg9 hBp hkp hg8 hz1
      have hrb10 := Hrb9.out
      have hr010 := Hr09.out
      have r0 : W9.cell? ⟨rb, 0, none⟩ = some (.int .i64 s.c) := by simp [World.cell?, hrb10]
      have r1 : W9.cell? ⟨rb, 1, none⟩ = some (.int .i64 (s.many + 1)) := by simp [World.cell?, hrb10]
      have r2 : W9.cell? ⟨rb, 2, none⟩ = some (.slice AF b.length cF) := by simp [World.cell?, hrb10]
      have r3 : W9.cell? ⟨rb, 3, none⟩ = some (.int .u64 tg) := by simp [World.cell?, hrb10]
      have t0 : W9.cell? ⟨w.heap.size, 0, none⟩ = some (.int .i64 0) := by simp [World.cell?, hr010]
      have t1 : W9.cell? ⟨w.heap.size, 1, none⟩ = some (.int .i64 0) := by simp [World.cell?, hr010]
      have t2 : W9.cell? ⟨w.heap.size, 2, none⟩ = some (.slice none 0 0) := by simp [World.cell?, hr010]
      have t3 : W9.cell? ⟨w.heap.size, 3, none⟩ = some (.int .u64 0) := by simp [World.cell?, hr010]
      have tf0 : W9.frozen? ⟨w.heap.size, 0, none⟩ = false := by simp [World.frozen?, hr010]
      have tf1 : W9.frozen? ⟨w.heap.size, 1, none⟩ = false := by simp [World.frozen?, hr010]
      have tf2 : W9.frozen? ⟨w.heap.size, 2, none⟩ = false := by simp [World.frozen?, hr010]
      have tf3 : W9.frozen? ⟨w.heap.size, 3, none⟩ = false := by simp [World.frozen?, hr010]
      clear hrb10 hr010
      go_wp2_with (fail)
      obtain ⟨Wf, hWf⟩ : ∃ Wf, Wf = ((((W9.setCell ⟨w.heap.size, 0, none⟩ (.int .i64 s.c)).setCell ⟨w.heap.size, 1, none⟩ (.int .i64 (s.many + 1))).setCell ⟨w.heap.size, 2, none⟩ (.slice AF b.length cF)).setCell ⟨w.heap.size, 3, none⟩ (.int .u64 tg)) := ⟨_, rfl⟩
      have kf : Kp (fun k => k = w.heap.size) W9 Wf := by rw [hWf]; exact kp_set4
      have hwf : Wf.heap[w.heap.size]? = some (.cells #[.int .i64 s.c, .int .i64 (s.many + 1), .slice AF b.length cF, .int .u64 tg] 37 (0, 0)) := by
        rw [hWf]
        exact heap_set4 Hr09.out _ _ _ _
      rw [← hWf]
      have f0 : Wf.cell? ⟨w.heap.size, 0, none⟩ = some (.int .i64 s.c) := by simp [World.cell?, hwf]
      have f1 : Wf.cell? ⟨w.heap.size, 1, none⟩ = some (.int .i64 (s.many + 1)) := by simp [World.cell?, hwf]
      have f2 : Wf.cell? ⟨w.heap.size, 2, none⟩ = some (.slice AF b.length cF) := by simp [World.cell?, hwf]
      have f3 : Wf.cell? ⟨w.heap.size, 3, none⟩ = some (.int .u64 tg) := by simp [World.cell?, hwf]
      have kall : Kp (fun k => k = g ∨ k = g8) w Wf := HBw9.out.trans kf (fun j hj e => by
        have := Hz1.out; omega)
      have kfn : ∀ j, j < W9.heap.size → j = w.heap.size → NoB W9 j := by
        rintro j _ rfl
        exact nob_cells Hr09.out (by decide)
      have h8r0 := H8k.out w.heap.size (Nat.le_refl _) (by have := Hz1.out; have := HBx.out.size; omega)
      refine bodyPost_ret (v := .tuple #[.agg #[.int .i64 s.c, .int .i64 (s.many + 1), .slice AF b.length cF, .int .u64 tg], .int .i64 0]) (by simp [results, Try.results55, go_sem, f0, f1, f2, f3]) rfl ⟨⟨_, by rw [Htg.out]; rfl, Hof9.out.kp kf kfn⟩, some g8, ⟨some ⟨g8, o8, none⟩, c8, cs0 ++ [.int .i64 s.c, .int .i64 (s.many + 1), .slice AF b.length cF, .int .u64 tg], ?_, ?_, ?_, rfl⟩, ?_, ?_⟩
      · have hl : (sendS s b).l.length = len + 1 := by simp [sendS, Hlen.out]
        rw [hl, kf.block g (Array.getElem?_eq_some_iff.1 Hg9.out).1 (by have := Hz1.out; omega)]
        exact Hg9.out
      · have hl : (sendS s b).l.length = len + 1 := by simp [sendS, Hlen.out]
        rw [hl]
        exact Har9.out.kp kf (fun a ea e => by cases ea; exact h8r0 e.symm)
      · exact (lay_kpR H3.out kall Hnb9.out).append (Lay.one rfl ⟨.slice AF b.length cF, by rw [Htg.out]; rfl, Hof9.out.kp kf kfn⟩)
      · refine kall.mono (fun j hj e => ?_)
        rcases e with rfl | rfl
        · exact .inl rfl
        · rcases Hg8q.out with e | e
          · exact .inr e
          · omega
      · rcases Hg8q.out with e | e
        · exact .inl e.symm
        · exact .inr ⟨_, rfl, e⟩
end Go.Proofs.Ytajdkcpcgfipbaa
