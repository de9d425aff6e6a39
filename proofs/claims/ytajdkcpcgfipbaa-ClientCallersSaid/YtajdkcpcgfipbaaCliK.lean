/- worldmintlaw37: requests of the reference model; Changed and Same. -/
import Derived.Test.YtajdkcpcgfipbaaCliJ
import Derived.Test.YtajdkcpcgfipbaaRefA
namespace Go.Proofs.Ytajdkcpcgfipbaa
open Go.RowKit Go.Wm

set_option maxRecDepth 100000 in
set_option maxHeartbeats 1000000 in
theorem own37_any (a b t : Int) (A : Option Addr) (l c : Nat) (w : World) :
    Calls Try.prog 21 #[.agg #[.int .i64 a, .int .i64 b, .slice A l c, .int .u64 t]] w fun e w' => e = .returned (.agg #[.int .i64 a, .int .i64 b, .slice A l c, .int .u64 t]) ∧ Below w.heap.size w w' := by
  go_enter Try.func21, Try.ntmps21
  go_wp2_with (fail)
  exact bodyPost_ret (v := .agg #[.int .i64 a, .int .i64 b, .slice A l c, .int .u64 t]) (by simp [results, Try.results21, go_sem]) rfl ⟨rfl, ((Below.refl _ w).alloc (Nat.le_refl _) _).alloc (by simp) _⟩
set_option maxRecDepth 100000 in
set_option maxHeartbeats 1000000 in
theorem request37_any (a b t : Int) (A : Option Addr) (l c : Nat) (w : World) :
    Calls Try.prog 23 #[.agg #[.int .i64 a, .int .i64 b, .slice A l c, .int .u64 t]] w fun e w' => e = .returned (.agg #[.int .i64 a, .int .i64 b, .slice A l c, .int .u64 t]) ∧ Below w.heap.size w w' := by
  go_enter Try.func23, Try.ntmps23
  go_wp2_with (fail)
  exact bodyPost_ret (v := .agg #[.int .i64 a, .int .i64 b, .slice A l c, .int .u64 t]) (by simp [results, Try.results23, go_sem]) rfl ⟨rfl, ((Below.refl _ w).alloc (Nat.le_refl _) _).alloc (by simp) _⟩
def sameRq (a b : Rq) : Bool := (a.c == b.c) && ((a.n == b.n) && ((a.t == b.t) && decide (a.b = b.b)))
theorem sameRq_iff (a b : Rq) : sameRq a b = true ↔ a.c = b.c ∧ a.n = b.n ∧ a.t = b.t ∧ a.b = b.b := by simp [sameRq]
set_option maxRecDepth 100000 in
set_option maxHeartbeats 2000000 in
theorem Same37_any (a b : Rq) (A B : Option Addr) (c d : Nat) (hl : a.b.length ≤ 140737488351232) (w : World) (hr : Rd .u8 w A a.b) (hr' : Rd .u8 w B b.b) :
    Calls Try.prog 24 #[.agg #[.int .i64 a.c, .int .i64 a.n, .slice A a.b.length c, .int .u64 a.t], .agg #[.int .i64 b.c, .int .i64 b.n, .slice B b.b.length d, .int .u64 b.t]] w fun e w' => e = .returned (.bool (sameRq a b)) ∧ Below w.heap.size w w' := by
  have hb2 : Below w.heap.size w ((w.alloc (.cells #[.int .i64 a.c, .int .i64 a.n, .slice A a.b.length c, .int .u64 a.t] 37)).alloc (.cells #[.int .i64 b.c, .int .i64 b.n, .slice B b.b.length d, .int .u64 b.t] 37)) := ((Below.refl _ w).alloc (Nat.le_refl _) _).alloc (by simp) _
  have HSB := Lib.hid (SameBytes_any A B c d a.b b.b hl _ (hr.below hb2 (Nat.le_refl _)) (hr'.below hb2 (Nat.le_refl _)))
  have Hb2 := Lib.hid hb2
  clear hr hr' hb2
  have body : ∀ x1 x2 x3 : Bool, (a.c == b.c) = x1 → (a.n == b.n) = x2 → (a.t == b.t) = x3 →
      Calls Try.prog 24 #[.agg #[.int .i64 a.c, .int .i64 a.n, .slice A a.b.length c, .int .u64 a.t], .agg #[.int .i64 b.c, .int .i64 b.n, .slice B b.b.length d, .int .u64 b.t]] w fun e w' => e = .returned (.bool (x1 && (x2 && (x3 && decide (a.b = b.b))))) ∧ Below w.heap.size w w' := by
    intro x1 x2 x3 h1 h2 h3
    cases x1 <;> cases x2 <;> cases x3
    all_goals
      go_enter Try.func24, Try.ntmps24
      go_wp2_with (fail)
      first
        | (go_ret; exact ⟨rfl, Hb2.out⟩)
        | (refine HSB.out.mono ?_; rintro e w' ⟨rfl, n, hw⟩; have HW := Lib.hid hw; clear hw; go_wp2_with (fail); go_ret; exact ⟨by simp, by rw [HW.out]; exact Hb2.out.trans ((drewN_below _ _).mono Hb2.out.size)⟩)
  exact body _ _ _ rfl rfl rfl
/-- ref37.Changed -/
def chgB (b : List Int) (y : Int) : List Int := if b = [] then [] else b.set (aroundI y b.length).toNat (bits .xor .u8 (b[(aroundI y b.length).toNat]?.getD 0) ((y.tdiv 7).tmod 256 % 256))
def chg (r : Rq) (which y : Int) : Rq :=
  if aroundI which 4 = 0 then { r with c := wrap64 (r.c + y) }
  else if aroundI which 4 = 1 then { r with n := wrap64 (r.n + y) }
  else if aroundI which 4 = 2 then { r with t := IntKind.u64.wrap (r.t + IntKind.u64.wrap y) }
  else { r with b := chgB r.b y }
set_option maxRecDepth 100000 in
set_option maxHeartbeats 4000000 in
theorem Changed_any (r : Rq) (which y : Int) (A : Option Addr) (cb : Nat) (hw1 : I64 which) (hy : I64 y) (hb : Byt r.b) (hl : r.b.length ≤ 1000000) (hcb : r.b.length ≤ cb) (w : World) (hr : ByS w (.slice A r.b.length cb) r.b) :
    Calls Try.prog 22 #[.agg #[.int .i64 r.c, .int .i64 r.n, .slice A r.b.length cb, .int .u64 r.t], .int .i64 which, .int .i64 y] w fun e w' =>
      (∃ A' c', e = .returned (.agg #[.int .i64 (chg r which y).c, .int .i64 (chg r which y).n, .slice A' (chg r which y).b.length c', .int .u64 (chg r which y).t]) ∧ ByS w' (.slice A' (chg r which y).b.length c') (chg r which y).b) ∧ Below w.heap.size w w' := by
  have hwi := (i64_iff _).1 hw1
  have hyi := (i64_iff _).1 hy
  have hB2 : Below w.heap.size w ((w.alloc (.cells #[.int .i64 r.c, .int .i64 r.n, .slice A r.b.length cb, .int .u64 r.t] 37)).alloc (.cells #[.int .i64 0, .int .i64 0, .slice none 0 0, .int .u64 0] 37)) := ((Below.refl _ w).alloc (Nat.le_refl _) _).alloc (by simp) _
  have Hr := Lib.hid hr
  have HAr := fun W => Lib.hid (Around_any which 4 (by omega) (by omega) (by decide) (by decide) W)
  obtain ⟨m, hm⟩ : ∃ m, m = aroundI which 4 := ⟨_, rfl⟩
  have hm4 := aroundI_range which 4 (by decide)
  rw [← hm] at hm4 HAr
  have Hm := Lib.hid hm
  clear hr hm
  by_cases m0 : m = 0
  · subst m0
    have HC := Lib.hid (show chg r which y = { r with c := wrap64 (r.c + y) } by simp [chg, ← Hm.out])
    go_enter Try.func22, Try.ntmps22
    go_wp2_with (fail)
    refine (HAr _).out.mono ?_
    rintro e w' ⟨rfl, rfl⟩
    go_wp2_with (fail)
    refine bodyPost_ret (v := .agg #[.int .i64 (chg r which y).c, .int .i64 (chg r which y).n, .slice A (chg r which y).b.length cb, .int .u64 (chg r which y).t]) ?_ rfl ⟨⟨A, cb, rfl, ?_⟩, ?_⟩
    · rw [HC.out]; simp [results, Try.results22, go_sem]
    · rw [HC.out]
      exact Hr.out.below (((Below.refl _ w).alloc (Nat.le_refl _) _).alloc (by simp) _)
    · exact ((Below.refl _ w).alloc (Nat.le_refl _) _).alloc (by simp) _
  by_cases m1 : m = 1
  · subst m1
    have HC := Lib.hid (show chg r which y = { r with n := wrap64 (r.n + y) } by simp [chg, ← Hm.out])
    go_enter Try.func22, Try.ntmps22
    go_wp2_with (fail)
    refine (HAr _).out.mono ?_
    rintro e w' ⟨rfl, rfl⟩
    go_wp2_with (fail)
    refine bodyPost_ret (v := .agg #[.int .i64 (chg r which y).c, .int .i64 (chg r which y).n, .slice A (chg r which y).b.length cb, .int .u64 (chg r which y).t]) ?_ rfl ⟨⟨A, cb, rfl, ?_⟩, ?_⟩
    · rw [HC.out]; simp [results, Try.results22, go_sem]
    · rw [HC.out]
      exact Hr.out.below (((Below.refl _ w).alloc (Nat.le_refl _) _).alloc (by simp) _)
    · exact ((Below.refl _ w).alloc (Nat.le_refl _) _).alloc (by simp) _
  by_cases m2 : m = 2
  · subst m2
    have HC := Lib.hid (show chg r which y = { r with t := IntKind.u64.wrap (r.t + IntKind.u64.wrap y) } by simp [chg, ← Hm.out])
    go_enter Try.func22, Try.ntmps22
    go_wp2_with (fail)
    refine (HAr _).out.mono ?_
    rintro e w' ⟨rfl, rfl⟩
    go_wp2_with (fail)
    refine bodyPost_ret (v := .agg #[.int .i64 (chg r which y).c, .int .i64 (chg r which y).n, .slice A (chg r which y).b.length cb, .int .u64 (chg r which y).t]) ?_ rfl ⟨⟨A, cb, rfl, ?_⟩, ?_⟩
    · rw [HC.out]; simp [results, Try.results22, go_sem]
    · rw [HC.out]
      exact Hr.out.below (((Below.refl _ w).alloc (Nat.le_refl _) _).alloc (by simp) _)
    · exact ((Below.refl _ w).alloc (Nat.le_refl _) _).alloc (by simp) _
  obtain rfl : m = 3 := by omega
  obtain ⟨bN, hbN⟩ : ∃ bN, bN = chgB r.b y := ⟨_, rfl⟩
  have HC := Lib.hid (show chg r which y = ⟨r.c, r.n, bN, r.t⟩ by rw [hbN]; simp [chg, ← Hm.out])
  have HbN := Lib.hid hbN
  clear hbN
  have HFe := Lib.hid (Few_any A cb r.b r.b.length hcb (by omega) (by omega) _ (Hr.out.toRd.below hB2 (Nat.le_refl _)))
  have HB2 := Lib.hid hB2
  have Hb := Lib.hid hb
  clear hB2 hb
  go_enter Try.func22, Try.ntmps22
  go_wp2_with (fail)
  refine (HAr _).out.mono ?_
  rintro e w' ⟨rfl, rfl⟩
  go_wp2_with (fail)
  refine HFe.out.mono ?_
  rintro e w3 ⟨⟨v3, rfl, ho3⟩, hb3⟩
  rw [List.take_length] at ho3
  obtain ⟨A3, c3, rfl⟩ := own_slice' ho3
  have hz3 := hb3.size
  simp only [World.size_alloc] at hz3
  have hh1 := (hb3.block w.heap.size (by simp; omega)).trans (((Below.refl _ (w.alloc (.cells #[.int .i64 r.c, .int .i64 r.n, .slice A r.b.length cb, .int .u64 r.t] 37))).alloc (Nat.le_refl _) (.cells #[.int .i64 0, .int .i64 0, .slice none 0 0, .int .u64 0] 37)).block w.heap.size (by simp) |>.trans (heap_alloc_new w _))
  have hh2 := (hb3.block (w.heap.size + 1) (by simp)).trans (show _ = some (.cells #[.int .i64 0, .int .i64 0, .slice none 0 0, .int .u64 0] 37 (0, 0)) by
    have := heap_alloc_new (w.alloc (.cells #[.int .i64 r.c, .int .i64 r.n, .slice A r.b.length cb, .int .u64 r.t] 37)) (.cells #[.int .i64 0, .int .i64 0, .slice none 0 0, .int .u64 0] 37)
    rwa [World.size_alloc] at this)
  have x0 : w3.cell? ⟨w.heap.size, 0, none⟩ = some (.int .i64 r.c) := by simp [World.cell?, hh1]
  have x1 : w3.cell? ⟨w.heap.size, 1, none⟩ = some (.int .i64 r.n) := by simp [World.cell?, hh1]
  have x2 : w3.cell? ⟨w.heap.size, 2, none⟩ = some (.slice A r.b.length cb) := by simp [World.cell?, hh1]
  have x3 : w3.cell? ⟨w.heap.size, 3, none⟩ = some (.int .u64 r.t) := by simp [World.cell?, hh1]
  have xf : w3.frozen? ⟨w.heap.size, 2, none⟩ = false := by simp [World.frozen?, hh1]
  have t0 : w3.cell? ⟨w.heap.size + 1, 0, none⟩ = some (.int .i64 0) := by simp [World.cell?, hh2]
  have t1 : w3.cell? ⟨w.heap.size + 1, 1, none⟩ = some (.int .i64 0) := by simp [World.cell?, hh2]
  have t2 : w3.cell? ⟨w.heap.size + 1, 2, none⟩ = some (.slice none 0 0) := by simp [World.cell?, hh2]
  have t3 : w3.cell? ⟨w.heap.size + 1, 3, none⟩ = some (.int .u64 0) := by simp [World.cell?, hh2]
  have tf0 : w3.frozen? ⟨w.heap.size + 1, 0, none⟩ = false := by simp [World.frozen?, hh2]
  have tf1 : w3.frozen? ⟨w.heap.size + 1, 1, none⟩ = false := by simp [World.frozen?, hh2]
  have tf2 : w3.frozen? ⟨w.heap.size + 1, 2, none⟩ = false := by simp [World.frozen?, hh2]
  have tf3 : w3.frozen? ⟨w.heap.size + 1, 3, none⟩ = false := by simp [World.frozen?, hh2]
  have hBw3 : Below w.heap.size w w3 := HB2.out.trans (hb3.mono (by simp; omega))
  have HBw3 := Lib.hid hBw3
  have Hh1 := Lib.hid hh1
  have Hh2 := Lib.hid hh2
  -- what is left when the bytes are those of a slice v5 of the call's own
  have FIN : ∀ (W : World) (b5 : List Int) (A5 : Option Addr) (c5 : Nat), Below w.heap.size w W → W.heap[w.heap.size]? = some (.cells #[.int .i64 r.c, .int .i64 r.n, .slice A r.b.length cb, .int .u64 r.t] 37 (0, 0)) →
      W.heap[w.heap.size + 1]? = some (.cells #[.int .i64 0, .int .i64 0, .slice none 0 0, .int .u64 0] 37 (0, 0)) → ByS W (.slice A5 b5.length c5) b5 →
      ∀ W', W' = ((((W.setCell ⟨w.heap.size, 2, none⟩ (.slice A5 b5.length c5)).setCell ⟨w.heap.size + 1, 0, none⟩ (.int .i64 r.c)).setCell ⟨w.heap.size + 1, 1, none⟩ (.int .i64 r.n)).setCell ⟨w.heap.size + 1, 2, none⟩ (.slice A5 b5.length c5)).setCell ⟨w.heap.size + 1, 3, none⟩ (.int .u64 r.t) →
      W'.heap[w.heap.size + 1]? = some (.cells #[.int .i64 r.c, .int .i64 r.n, .slice A5 b5.length c5, .int .u64 r.t] 37 (0, 0)) ∧ ByS W' (.slice A5 b5.length c5) b5 ∧ Below w.heap.size w W' := by
    rintro W b5 A5 c5 hB h1 h2 hv W' rfl
    have h2' : (W.setCell ⟨w.heap.size, 2, none⟩ (.slice A5 b5.length c5)).heap[w.heap.size + 1]? = some (.cells #[.int .i64 0, .int .i64 0, .slice none 0 0, .int .u64 0] 37 (0, 0)) := by
      rw [Below.heap_setCell _ _ _ _ (show w.heap.size + 1 ≠ w.heap.size by omega)]; exact h2
    exact ⟨heap_set4 h2' _ _ _ _, ByS.set4 (hv.kp ((Kp.refl (fun k => k = w.heap.size) W).set (p := ⟨w.heap.size, 2, none⟩) (fun _ => rfl) _) (fun j _ e => by subst e; exact nob_cells h1 (by decide))) h2' (by decide), below_set4 (hB.setCell (p := ⟨w.heap.size, 2, none⟩) (Nat.le_refl _) _) (by omega)⟩
  have HFIN := Lib.hid FIN
  clear FIN hBw3 hh1 hh2 HFe hb3
  by_cases hne : r.b = []
  · have hchg : bN = r.b := by rw [HbN.out, hne]; simp [chgB]
    have hl0 : r.b.length = 0 := by rw [hne]; rfl
    have Hv3 := Lib.hid (show ByS w3 (.slice A3 r.b.length c3) r.b from ⟨_, ho3⟩)
    have hd : decide (0 < r.b.length) = false := decide_eq_false (by omega)
    have hdi : decide ((0 : Int) < (r.b.length : Int)) = false := decide_eq_false (by omega)
    have Hchg := Lib.hid hchg
    have Hl0 := Lib.hid hl0
    clear ho3 hne hl0 hchg
    go_wp2_with (fail)
    obtain ⟨Wf, hWf⟩ : ∃ Wf, Wf = ((((w3.setCell ⟨w.heap.size, 2, none⟩ (.slice A3 r.b.length c3)).setCell ⟨w.heap.size + 1, 0, none⟩ (.int .i64 r.c)).setCell ⟨w.heap.size + 1, 1, none⟩ (.int .i64 r.n)).setCell ⟨w.heap.size + 1, 2, none⟩ (.slice A3 r.b.length c3)).setCell ⟨w.heap.size + 1, 3, none⟩ (.int .u64 r.t) := ⟨_, rfl⟩
    rw [← hWf]
    obtain ⟨f1, f2, f3⟩ := HFIN.out w3 r.b A3 c3 HBw3.out Hh1.out Hh2.out Hv3.out Wf hWf
    have g0 : Wf.cell? ⟨w.heap.size + 1, 0, none⟩ = some (.int .i64 r.c) := by simp [World.cell?, f1]
    have g1 : Wf.cell? ⟨w.heap.size + 1, 1, none⟩ = some (.int .i64 r.n) := by simp [World.cell?, f1]
    have g2 : Wf.cell? ⟨w.heap.size + 1, 2, none⟩ = some (.slice A3 r.b.length c3) := by simp [World.cell?, f1]
    have g3 : Wf.cell? ⟨w.heap.size + 1, 3, none⟩ = some (.int .u64 r.t) := by simp [World.cell?, f1]
    exact bodyPost_ret (v := .agg #[.int .i64 r.c, .int .i64 r.n, .slice A3 r.b.length c3, .int .u64 r.t]) (by simp [results, Try.results22, go_sem, g0, g1, g2, g3]) rfl ⟨⟨A3, c3, by rw [HC.out, Hchg.out], by rw [HC.out, Hchg.out]; exact f2⟩, f3⟩
  · have hpos := List.length_pos_iff.2 hne
    obtain ⟨len, hlen⟩ : ∃ len, len = r.b.length := ⟨_, rfl⟩
    rw [← hlen] at hl hcb hpos ho3 x2 ⊢
    have HAk := Around_any y (len : Int) (by omega) (by omega) (by omega) (by omega) w3
    obtain ⟨q0, q1⟩ := aroundI_range y (len : Int) (by omega)
    obtain ⟨k, hk⟩ := Int.eq_ofNat_of_zero_le q0
    rw [hk] at HAk q1
    have hkl : k < len := by omega
    have hbk : r.b[k]? = some (r.b[k]'(by omega)) := List.getElem?_eq_getElem (by omega)
    obtain ⟨z, hz⟩ : ∃ z, z = r.b[k]'(by omega) := ⟨_, rfl⟩
    rw [← hz] at hbk
    obtain ⟨nb, hnb⟩ : ∃ nb, nb = bits .xor .u8 z ((y.tdiv 7).tmod 256 % 256) := ⟨_, rfl⟩
    obtain ⟨bq, hA3, hbq, hbu, hcell, hfz, hrow3⟩ := own_set ho3 hkl (.int .u8 nb)
    subst hA3
    rw [List.getElem?_map, hbk, Option.map_some] at hcell
    have hd : decide (0 < len) = true := decide_eq_true hpos
    have hdi : decide ((0 : Int) < (len : Int)) = true := decide_eq_true (by omega)
    have HAk' := Lib.hid HAk
    have Hrow3 := Lib.hid hrow3
    have Hlen := Lib.hid hlen
    have Hk := Lib.hid hk
    have Hbk := Lib.hid hbk
    have Hnb := Lib.hid hnb
    have hne1 : ¬ w.heap.size = bq := by simp at hbq; omega
    have hne2 : ¬ w.heap.size + 1 = bq := by simp at hbq; omega
    have hk0 : (0 : Int) ≤ (k : Int) := by omega
    clear HAk ho3 hrow3 hlen hk hbk hz hnb q0
    go_wp2_with (fail)
    refine HAk'.out.mono ?_
    rintro e w' ⟨rfl, rfl⟩
    go_wp2_with (fail)
    rw [← Hnb.out]
    obtain ⟨W4, hW4⟩ : ∃ W4, W4 = w3.setCell ⟨bq, k, none⟩ (.int .u8 nb) := ⟨_, rfl⟩
    rw [← hW4]
    have hset : bN = r.b.set k nb := by
      rw [HbN.out, chgB, if_neg hne, ← Hlen.out, Hk.out, Hnb.out, Int.toNat_natCast, Hbk.out]; rfl
    have hlN : bN.length = len := by rw [hset, List.length_set, Hlen.out]
    have hv4 : ByS W4 (.slice (some ⟨bq, 0, none⟩) bN.length c3) bN := by
      rw [hW4]
      exact ⟨_, own_cast (by rw [hlN]; exact Hrow3.out) hlN.symm (by rw [hset]; exact (List.map_set (f := Value.int .u8) (l := r.b) (i := k) (a := nb)).symm)⟩
    have hB4 : Below w.heap.size w W4 := by rw [hW4]; exact HBw3.out.setCell (p := ⟨bq, k, none⟩) (by show w.heap.size ≤ bq; simp at hbq; omega) _
    have h14 := (show W4.heap[w.heap.size]? = w3.heap[w.heap.size]? by rw [hW4, Below.heap_setCell _ _ _ _ (show w.heap.size ≠ bq from hne1)]).trans Hh1.out
    have h24 := (show W4.heap[w.heap.size + 1]? = w3.heap[w.heap.size + 1]? by rw [hW4, Below.heap_setCell _ _ _ _ (show w.heap.size + 1 ≠ bq from hne2)]).trans Hh2.out
    obtain ⟨Wf, hWf⟩ : ∃ Wf, Wf = ((((W4.setCell ⟨w.heap.size, 2, none⟩ (.slice (some ⟨bq, 0, none⟩) len c3)).setCell ⟨w.heap.size + 1, 0, none⟩ (.int .i64 r.c)).setCell ⟨w.heap.size + 1, 1, none⟩ (.int .i64 r.n)).setCell ⟨w.heap.size + 1, 2, none⟩ (.slice (some ⟨bq, 0, none⟩) len c3)).setCell ⟨w.heap.size + 1, 3, none⟩ (.int .u64 r.t) := ⟨_, rfl⟩
    rw [← hWf]
    obtain ⟨f1, f2, f3⟩ := HFIN.out W4 bN (some ⟨bq, 0, none⟩) c3 hB4 h14 h24 hv4 Wf (by rw [hWf, hlN])
    rw [hlN] at f1 f2
    have g0 : Wf.cell? ⟨w.heap.size + 1, 0, none⟩ = some (.int .i64 r.c) := by simp [World.cell?, f1]
    have g1 : Wf.cell? ⟨w.heap.size + 1, 1, none⟩ = some (.int .i64 r.n) := by simp [World.cell?, f1]
    have g2 : Wf.cell? ⟨w.heap.size + 1, 2, none⟩ = some (.slice (some ⟨bq, 0, none⟩) len c3) := by simp [World.cell?, f1]
    have g3 : Wf.cell? ⟨w.heap.size + 1, 3, none⟩ = some (.int .u64 r.t) := by simp [World.cell?, f1]
    exact bodyPost_ret (v := .agg #[.int .i64 r.c, .int .i64 r.n, .slice (some ⟨bq, 0, none⟩) len c3, .int .u64 r.t]) (by simp [results, Try.results22, go_sem, g0, g1, g2, g3]) rfl ⟨⟨some ⟨bq, 0, none⟩, c3, by rw [HC.out, ← hlN], by rw [HC.out]; show ByS Wf (.slice _ bN.length c3) bN; rw [hlN]; exact f2⟩, f3⟩
end Go.Proofs.Ytajdkcpcgfipbaa
