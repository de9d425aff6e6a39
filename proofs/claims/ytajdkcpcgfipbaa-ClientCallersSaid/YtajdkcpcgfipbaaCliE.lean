/- Package client: Accept. -/
import Derived.Test.YtajdkcpcgfipbaaCliD
import Derived.Deep.RegionHeld3
import Derived.StillTailTactics
import Derived.Deep.AppendLies
namespace Go.Proofs.Ytajdkcpcgfipbaa
open Go.RowKit Go.Wm
attribute [local go_sem] min_int max_int

/-- a slice value that reads as bytes of the call's own -/
def AccTo (B : Nat) (w w' : World) (g : Nat) (σ : Srv) (F : Nat → Prop) (n : Nat) (r : Rq) (e : Ending) : Prop :=
  (∃ v, e = .returned (.tuple #[.bool (accR σ r).1, v, .int .i64 (accR σ r).2.2]) ∧ ByS w' v (accR σ r).2.1) ∧ SsnTo B w w' g (accS σ r) F n
theorem AccTo.still {B : Nat} {w w' : World} {g : Nat} {σ : Srv} {F : Nat → Prop} {n : Nat} {r : Rq} {e : Ending} (h : Ssn B w g σ F n) (hb : Below w.heap.size w w') {x : Int} (hr : accR σ r = (false, [], x)) (he : e = .returned (.tuple #[.bool false, .slice none 0 0, .int .i64 x])) : AccTo B w w' g σ F n r e := by
  refine ⟨⟨_, by rw [he, hr], by rw [hr]; exact ByS.nil _⟩, F, ?_, Kp.of_below hb, fun k hk => .inl hk⟩
  rw [show accS σ r = σ by simp [accS, hr]]
  exact h.below hb
theorem info_old : (Try.prog.info? 126).map (fun i => (i.zero, i.size, i.bytes)) = some (some (.agg #[.int .u64 0, .bool false, .slice none 0 0]), 3, 40) := by kernel_rfl
theorem blk_ne_arr {W : World} {k e t size n c : Nat} {A : Option Addr} {cs : List Value} {C : Array Value} {f : Nat × Nat} (h : Arr W e size A n c cs) (hk : W.heap[k]? = some (.cells C t f)) (hne : e ≠ t) : ¬ ∃ a0, A = some a0 ∧ k = a0.block := by
  rintro ⟨a0, ea, rfl⟩
  obtain ⟨_, _, cur, b3⟩ := h.blk a0 ea
  rw [b3] at hk
  exact hne (by cases hk; rfl)
theorem arr_ne {W0 W : World} {k e t size n c g : Nat} {A : Option Addr} {cs : List Value} {C : Array Value} {f : Nat × Nat} (h : Arr W e size A n c cs) (hk : W.heap[k]? = some (.cells C t f)) (hne : e ≠ t) (hW : W.heap.size ≤ W0.heap.size) (hg : (∃ a0, A = some a0 ∧ g = a0.block) ∨ g = W0.heap.size) : ¬ k = g := by
  rintro rfl
  rcases hg with hg | hg
  · exact blk_ne_arr h hk hne hg
  · have := (Array.getElem?_eq_some_iff.1 hk).1; omega
/-- one client's state has turned, in its own blocks -/
theorem ssn_one {B : Nat} {w w' : World} {g n bm : Nat} {σ : Srv} {F : Nat → Prop} {m : Int → Option Value} {p : Int → Nat} {q : Int → Option Nat} {c : Int} {s s' : Ses} {qc : Option Nat}
    (h1 : ∀ k, F k → B ≤ k ∧ k < w.heap.size ∧ SesTy w k) (hg : F g) (h2 : w.heap[g]? = some (.cells #[.map (some bm)] 112 (0, 0))) (h3 : IMap Try.prog 3 w bm n m) (h4 : F bm)
    (h5 : ∀ x, I64 x → m x = (σ x).map fun _ => .pointer (some ⟨p x, 0, none⟩))
    (h6 : ∀ x s, σ x = some s → I64 x ∧ SesOk s ∧ SesAt w (p x) (q x) s ∧ F (p x) ∧ ∀ k, q x = some k → F k)
    (h7 : ∀ x y s t, σ x = some s → σ y = some t → x ≠ y → p x ≠ p y ∧ ∀ k, q x = some k → q y ≠ some k)
    (hs : σ c = some s) (hk : Kp (fun k => k = p c ∨ qc = some k) w w') (hok : SesOk s') (hat : SesAt w' (p c) qc s') (hqc : ∀ k, qc = some k → q c = some k ∨ w.heap.size ≤ k) :
    SsnTo B w w' g (updS σ c s') F n := by
  obtain ⟨hc, hok0, ⟨A0, c0, cs0, d1, d2, d3, d4⟩, f1, f2⟩ := h6 c s hs
  obtain ⟨A1, c1, cs1, e1, e2, e3, e4⟩ := id hat
  have hq : ∀ k, qc = some k → k < w.heap.size → q c = some k := fun k h hl => (hqc k h).resolve_right (by omega)
  have tyq : ∀ y k, (∃ s, σ y = some s) → q y = some k → ∃ cur, w.heap[k]? = some (.cells cur 126 (0, 0)) := by
    rintro y k ⟨s, hy⟩ hk
    obtain ⟨_, _, ⟨A, cc, cs, _, g3, _, g4⟩, _⟩ := h6 y s hy
    rw [hk] at g4
    cases A with
    | none => cases g4
    | some a =>
      simp at g4
      obtain ⟨_, _, cur, b3⟩ := g3.blk a rfl
      exact ⟨cur, by rw [g4]; exact b3⟩
  have hbm : ¬ (bm = p c ∨ qc = some bm) := by
    obtain ⟨es, cl, em⟩ := h3.is
    rintro (e | e)
    · rw [e, d1] at em; cases em
    · obtain ⟨cur, b⟩ := tyq c bm ⟨s, hs⟩ (hq bm e h3.lt)
      rw [em] at b; cases b
  have hgs : ¬ (g = p c ∨ qc = some g) := by
    rintro (e | e)
    · rw [e, d1] at h2; cases h2
    · obtain ⟨cur, b⟩ := tyq c g ⟨s, hs⟩ (hq g e (h1 g hg).2.1)
      rw [h2] at b; cases b
  refine ⟨_, Ssn.upd (S := fun k => k = p c ∨ qc = some k) (pc := p c) (qc := qc) (m' := m) h1 hg h2 h4 h6 h7 hk ?_ hgs ?_ ?_ (h3.kp hk hbm) ?_ hc hok hat (.inl ⟨rfl, by rw [hs]; rfl⟩) ?_, hk.mono ?_, ?_⟩
  · rintro k hkl (rfl | e)
    · exact f1
    · exact f2 k (hq k e hkl)
  · intro y t hy hne
    obtain ⟨_, _, ⟨A, cc, cs, g1, g3, _, g4⟩, g5, g6⟩ := h6 y t hy
    obtain ⟨n1, n2⟩ := h7 y c t s hy hs hne
    refine ⟨?_, fun k hk' => ?_⟩
    · rintro (e | e)
      · exact n1 e
      · obtain ⟨cur, b⟩ := tyq c (p y) ⟨s, hs⟩ (hq _ e (Array.getElem?_eq_some_iff.1 g1).1)
        rw [g1] at b; cases b
    · obtain ⟨cur, b⟩ := tyq y k ⟨t, hy⟩ hk'
      rintro (e | e)
      · rw [e, d1] at b; cases b
      · exact n2 k hk' (hq k e (Array.getElem?_eq_some_iff.1 b).1)
  · rintro k _ (rfl | e)
    · exact .inr (.inr (.inl ⟨_, _, e1⟩))
    · rw [e4] at e
      cases A1 with
      | none => cases e
      | some a =>
        simp at e
        obtain ⟨_, _, cur, b3⟩ := e2.blk a rfl
        rw [e] at b3
        exact .inr (.inr (.inr ⟨_, _, b3⟩))
  · intro x hx
    by_cases e : x = c
    · subst e; rw [h5 x hx, hs]; simp
    · rw [h5 x hx, if_neg e]
  · intro k e
    rcases hqc k e with h | h
    · exact .inl ⟨h, by rw [hs]; rfl⟩
    · exact .inr h
  · rintro k hkl (rfl | e)
    · exact f1
    · exact f2 k (hq k e hkl)
  · rintro k (e | rfl | e)
    · exact .inl e
    · exact .inl f1
    · rcases hqc k e with h | h
      · exact .inl (f2 k h)
      · exact .inr h
theorem lay_kpO {S : Nat → Prop} {w w' : World} {l : List Old} {cs : List Value} (h : Lay 3 (OldE w) l cs) (k : Kp S w w') (hS : ∀ j, j < w.heap.size → S j → NoB w j) : Lay 3 (OldE w') l cs :=
  h.mono fun x _ ch _ he => by obtain ⟨v, e, hv⟩ := he; exact ⟨v, e, hv.kp k hS⟩
theorem nob_cells {w : World} {k t : Nat} {C : Array Value} {f : Nat × Nat} (h : w.heap[k]? = some (.cells C t f)) (ht : t ≠ 5) : NoB w k := by
  intro cs f' e
  rw [h] at e
  exact ht (by cases e; rfl)
theorem acc_fin {B : Nat} {w W9 W10 : World} {g n bm : Nat} {σ : Srv} {F : Nat → Prop} {m : Int → Option Value} {p : Int → Nat} {q : Int → Option Nat} {c : Int} {s : Ses} {l' : List Old} {pc g8 o' c' : Nat} {cs' : List Value} {v : Value}
    (h1 : ∀ k, F k → B ≤ k ∧ k < w.heap.size ∧ SesTy w k) (hg : F g) (h2 : w.heap[g]? = some (.cells #[.map (some bm)] 112 (0, 0))) (h3 : IMap Try.prog 3 w bm n m) (h4 : F bm)
    (h5 : ∀ x, I64 x → m x = (σ x).map fun _ => .pointer (some ⟨p x, 0, none⟩))
    (h6 : ∀ x s, σ x = some s → I64 x ∧ SesOk s ∧ SesAt w (p x) (q x) s ∧ F (p x) ∧ ∀ k, q x = some k → F k)
    (h7 : ∀ x y s t, σ x = some s → σ y = some t → x ≠ y → p x ≠ p y ∧ ∀ k, q x = some k → q y ≠ some k)
    (hs : σ c = some s) (hpc : pc = p c) (h9 : W9.heap[pc]? = some (.cells #[.int .u64 s.key, .int .i64 s.last, v] 118 (0, 0))) (k9 : Kp (fun k => k = pc ∨ some g8 = some k) w W9) (hdr : W10 = W9.drew)
    (ha : Arr W9 126 3 (some ⟨g8, o', none⟩) l'.length c' cs') (hl : Lay 3 (OldE W9) l' cs') (hg8 : q c = some g8 ∨ w.heap.size ≤ g8) (hok : SesOk ⟨s.key, s.last + 1, l'⟩) {len' : Nat} (hlen : len' = l'.length) :
    SsnTo B w ((W10.setCell ⟨pc, 2, none⟩ (.slice (some ⟨g8, o', none⟩) len' c')).setCell ⟨pc, 1, none⟩ (.int .i64 (s.last + 1))) g (updS σ c ⟨s.key, s.last + 1, l'⟩) F n := by
  subst hlen hpc hdr
  have kf : Kp (fun k => k = p c) W9 ((W9.drew.setCell ⟨p c, 2, none⟩ (.slice (some ⟨g8, o', none⟩) l'.length c')).setCell ⟨p c, 1, none⟩ (.int .i64 (s.last + 1))) :=
    (((Kp.refl (fun k => k = p c) W9).drew).set (p := ⟨p c, 2, none⟩) (fun _ => rfl) _).set (p := ⟨p c, 1, none⟩) (fun _ => rfl) _
  have hne : ¬ g8 = p c := by
    rintro rfl
    obtain ⟨_, _, cur, b3⟩ := ha.blk _ rfl
    rw [h9] at b3; cases b3
  refine ssn_one h1 hg h2 h3 h4 h5 h6 h7 hs (qc := some g8) (k9.trans kf (fun j _ e => .inl e)) hok ⟨some ⟨g8, o', none⟩, c', cs', ?_, ha.kp kf (fun a ea => by cases ea; exact hne), lay_kpO hl kf (fun j _ e => by subst e; exact nob_cells h9 (by decide)), rfl⟩ (fun k e => by cases e; exact hg8)
  have hd : W9.drew.heap = W9.heap := rfl
  simp [World.setCell, Array.getElem?_modify, hd, h9]
theorem drewN_below (w : World) (a : Nat) : Below w.heap.size w (w.drewN a) := ⟨rfl, rfl, rfl, Nat.le_refl _, fun _ _ => rfl⟩

set_option maxRecDepth 100000 in
set_option maxHeartbeats 4000000 in
theorem Accept_any (B : Nat) (g n : Nat) (σ : Srv) (F : Nat → Prop) (r : Rq) (A : Option Addr) (cb : Nat) (hc : I64 r.c) (hn : I64 r.n) (hb : Byt r.b) (hl : r.b.length ≤ 140737488351232) (w : World) (h : Ssn B w g σ F n) (hr : Rd .u8 w A r.b) :
    Calls Try.prog 27 #[.pointer (some ⟨g, 0, none⟩), .agg #[.int .i64 r.c, .int .i64 r.n, .slice A r.b.length cb, .int .u64 r.t]] w fun e w' => AccTo B w w' g σ F n r e := by
  have Hh := Lib.hid h
  have Hb := Lib.hid hb
  have Hr := Lib.hid hr
  have hci := (i64_iff _).1 hc
  have hni := (i64_iff _).1 hn
  obtain ⟨h1, hg, bm, m, p, q, h2, h3, h4, h5, h6, h7⟩ := h
  have hc0 : w.cell? ⟨g, 0, none⟩ = some (.map (some bm)) := by simp [World.cell?, h2]
  have hlk0 := fun W (hW : Below w.heap.size w W) => (h3.kp (S := fun _ => False) (Kp.of_below hW) (fun e => e)).lookup Try.underlying3 Try.underlying110 (zero_sesp W) hc
  simp only [h5 r.c hc] at hlk0
  have Hlk := Lib.hid hlk0
  have H1 := Lib.hid h1
  have H2 := Lib.hid h2
  have H3 := Lib.hid h3
  have H5 := Lib.hid h5
  have H6 := Lib.hid h6
  have H7 := Lib.hid h7
  have hgl := (h1 g hg).2.1
  clear hlk0 h1 h2 h3 h5 h6 h7 hb hr
  by_cases b1 : r.c < 1
  · have hd : decide (r.c < 1) = true := decide_eq_true b1
    have HR := Lib.hid (show accR σ r = (false, [], 1) by simp [accR, b1])
    go_enter Try.func27, Try.ntmps27
    go_wp2_with (fail)
    go_ret3
    exact AccTo.still Hh.out ((Below.refl _ w).alloc (Nat.le_refl _) _) HR.out rfl
  have hd1 : decide (r.c < 1) = false := decide_eq_false b1
  by_cases b2 : 1073741824 < r.c
  · have hd : decide (1073741824 < r.c) = true := decide_eq_true b2
    have HR := Lib.hid (show accR σ r = (false, [], 1) by simp [accR, b2])
    go_enter Try.func27, Try.ntmps27
    go_wp2_with (fail)
    go_ret3
    exact AccTo.still Hh.out ((Below.refl _ w).alloc (Nat.le_refl _) _) HR.out rfl
  have hd2 : decide (1073741824 < r.c) = false := decide_eq_false b2
  by_cases b3 : r.n < 1
  · have hd : decide (r.n < 1) = true := decide_eq_true b3
    have HR := Lib.hid (show accR σ r = (false, [], 1) by simp [accR, b3])
    go_enter Try.func27, Try.ntmps27
    go_wp2_with (fail)
    go_ret3
    exact AccTo.still Hh.out ((Below.refl _ w).alloc (Nat.le_refl _) _) HR.out rfl
  have hd3 : decide (r.n < 1) = false := decide_eq_false b3
  by_cases b4 : 65536 < r.b.length
  · have hd : decide (65536 < (r.b.length : Int)) = true := decide_eq_true (by omega)
    have hdn : decide (65536 < r.b.length) = true := decide_eq_true b4
    have HR := Lib.hid (show accR σ r = (false, [], 1) by simp [accR, b4])
    go_enter Try.func27, Try.ntmps27
    go_wp2_with (fail)
    go_ret3
    exact AccTo.still Hh.out ((Below.refl _ w).alloc (Nat.le_refl _) _) HR.out rfl
  have hd4 : decide (65536 < (r.b.length : Int)) = false := decide_eq_false (by omega)
  have hdn4 : decide (65536 < r.b.length) = false := decide_eq_false b4
  have HR0 := Lib.hid (show ∀ s, σ r.c = some s → accR σ r = if tagI s.key r.c r.n r.b ≠ r.t then ((false, [], 20) : Bool × List Int × Int) else if r.n - 1 > s.last then (false, [], 3)
      else if r.n > s.last then (if waitsS s then (false, [], 13) else (true, [], 0))
      else (if (s.l.length : Int) - 1 - (s.last - r.n) < 0 then (false, [], 14)
        else match s.l[((s.l.length : Int) - 1 - (s.last - r.n)).toNat]? with
          | none => (false, [], 14)
          | some o => if o.h ≠ hashB bodyLbl r.b then (false, [], 8) else if o.ans = false then (false, [], 13) else (false, o.a, 0)) from fun s e => by
        unfold accR; rw [if_neg (by omega)]; simp only [e]; rfl)
  have HR1 := Lib.hid (show σ r.c = none → accR σ r = (false, [], 7) from fun e => by
        unfold accR; rw [if_neg (by omega)]; simp only [e])
  go_enter Try.func27, Try.ntmps27
  go_wp2_with (fail)
  obtain ⟨W, hW⟩ : ∃ W, W = w.alloc (.cells #[.int .i64 r.c, .int .i64 r.n, .slice A r.b.length cb, .int .u64 r.t] 32) := ⟨_, rfl⟩
  rw [← hW]
  have HB0 := Lib.hid (show Below w.heap.size w W by rw [hW]; exact (Below.refl _ w).alloc (Nat.le_refl _) _)
  have hx : W.heap[w.heap.size]? = some (.cells #[.int .i64 r.c, .int .i64 r.n, .slice A r.b.length cb, .int .u64 r.t] 32 (0, 0)) := by rw [hW]; exact heap_alloc_new w _
  have x0 : W.cell? ⟨w.heap.size, 0, none⟩ = some (.int .i64 r.c) := by simp [World.cell?, hx]
  have x1 : W.cell? ⟨w.heap.size, 1, none⟩ = some (.int .i64 r.n) := by simp [World.cell?, hx]
  have x2 : W.cell? ⟨w.heap.size, 2, none⟩ = some (.slice A r.b.length cb) := by simp [World.cell?, hx]
  have x3 : W.cell? ⟨w.heap.size, 3, none⟩ = some (.int .u64 r.t) := by simp [World.cell?, hx]
  have xg : W.cell? ⟨g, 0, none⟩ = some (.map (some bm)) := (HB0.out.cell (p := ⟨g, 0, none⟩) hgl).trans hc0
  have hws : w.heap.size + 1 = W.heap.size := by rw [hW]; simp
  clear hW hx hc0 hd1 hd2 hd3 hd4 hdn4
  have hlk : ∀ a, (Instr.lookup 110 (.map (some bm)) (.int .i64 r.c) false).run Try.prog (W.drewN a) = .ok (((σ r.c).map fun _ => Value.pointer (some ⟨p r.c, 0, none⟩)).getD (.pointer none)) (W.drewN a) := fun a => Hlk.out _ (HB0.out.trans ((drewN_below W a).mono HB0.out.size))
  cases hs : σ r.c with
  | none =>
    have HR := Lib.hid (HR1.out hs)
    simp only [hs, Option.map_none, Option.getD_none] at hlk
    have Hs := Lib.hid hs
    clear hs
    go_quiet (fail)
    go_wp2_with (fail)
    go_ret3
    exact AccTo.still Hh.out (HB0.out.trans ((drewN_below W _).mono HB0.out.size)) HR.out rfl
  | some s =>
    have HR := Lib.hid (HR0.out s hs)
    simp only [hs, Option.map_some, Option.getD_some] at hlk
    obtain ⟨_, hok, hat, hFp, hFq⟩ := H6.out r.c s hs
    have Hs := Lib.hid hs
    obtain ⟨pc, hpc⟩ : ∃ pc, pc = p r.c := ⟨_, rfl⟩
    rw [← hpc] at hlk hat hFp
    have Hpc := Lib.hid hpc
    clear hs hpc
    go_quiet (fail)
    go_wp2_with (fail)
    obtain ⟨W1, hW1⟩ : ∃ W1, W1 = W.drewN nq := ⟨_, rfl⟩
    rw [← hW1]
    have HB1 := Lib.hid (show Below w.heap.size w W1 by rw [hW1]; exact HB0.out.trans ((drewN_below W _).mono HB0.out.size))
    have HBW := Lib.hid (show Below W.heap.size W W1 by rw [hW1]; exact drewN_below W _)
    have y0 := (HBW.out.cell (p := ⟨w.heap.size, 0, none⟩) (by show w.heap.size < _; omega)).trans x0
    have y1 := (HBW.out.cell (p := ⟨w.heap.size, 1, none⟩) (by show w.heap.size < _; omega)).trans x1
    have y2 := (HBW.out.cell (p := ⟨w.heap.size, 2, none⟩) (by show w.heap.size < _; omega)).trans x2
    have y3 := (HBW.out.cell (p := ⟨w.heap.size, 3, none⟩) (by show w.heap.size < _; omega)).trans x3
    have hws1 := HBW.out.size
    have hat1 := hat.kp (Kp.of_below (S := fun _ => False) HB1.out) (fun e => e) (fun _ _ e => e) (fun _ _ e => e.elim)
    obtain ⟨A1, c1, cs1, e1, e2, e3, e4⟩ := id hat1
    have hpl := (Array.getElem?_eq_some_iff.1 e1).1
    have z0 : W1.cell? ⟨pc, 0, none⟩ = some (.int .u64 s.key) := by simp [World.cell?, e1]
    have z1 : W1.cell? ⟨pc, 1, none⟩ = some (.int .i64 s.last) := by simp [World.cell?, e1]
    have z2 : W1.cell? ⟨pc, 2, none⟩ = some (.slice A1 s.l.length c1) := by simp [World.cell?, e1]
    have Hat1 := Lib.hid hat1
    have HS : ∀ W', Below W1.heap.size W1 W' → Below W1.heap.size W1 W' ∧ W'.cell? ⟨pc, 0, none⟩ = some (.int .u64 s.key) ∧ W'.cell? ⟨w.heap.size, 0, none⟩ = some (.int .i64 r.c) ∧ W'.cell? ⟨w.heap.size, 1, none⟩ = some (.int .i64 r.n) ∧ W'.cell? ⟨w.heap.size, 2, none⟩ = some (.slice A r.b.length cb) ∧ W'.cell? ⟨w.heap.size, 3, none⟩ = some (.int .u64 r.t) := fun W' hB =>
      ⟨hB, (hB.cell (p := ⟨pc, 0, none⟩) hpl).trans z0, (hB.cell (p := ⟨w.heap.size, 0, none⟩) (by show w.heap.size < _; omega)).trans y0, (hB.cell (p := ⟨w.heap.size, 1, none⟩) (by show w.heap.size < _; omega)).trans y1, (hB.cell (p := ⟨w.heap.size, 2, none⟩) (by show w.heap.size < _; omega)).trans y2, (hB.cell (p := ⟨w.heap.size, 3, none⟩) (by show w.heap.size < _; omega)).trans y3⟩
    have HS' := Lib.hid HS
    obtain ⟨tg, htg⟩ : ∃ tg, tg = tagI s.key r.c r.n r.b := ⟨_, rfl⟩
    rw [← htg] at HR
    have HT : ∀ W', Below W1.heap.size W1 W' → Calls Try.prog 61 #[.int .u64 s.key, .int .i64 r.c, .int .i64 r.n, .slice A r.b.length cb] W' fun e w' => e = .returned (.int .u64 tg) ∧ Below W1.heap.size W1 w' := fun W' hB => by
      rw [htg]
      exact (Tag_any s.key r.c r.n A cb r.b Hb.out (by omega) W' (Hr.out.below (HB1.out.trans (hB.mono HB1.out.size)) (Nat.le_refl _))).mono fun e w' ⟨he, hb'⟩ => ⟨he, hB.trans (hb'.mono hB.size)⟩
    have HT' := Lib.hid HT
    have Htg := Lib.hid htg
    clear htg HT HS hat hat1 e1 e2 e3 e4 hlk x0 x1 x2 x3 xg hW1
    have hwr : IntKind.i64.wrap (r.n - 1) = r.n - 1 := IntWalk.i64_in _ (by omega)
    have Hwr := Lib.hid hwr
    clear hwr
    obtain ⟨t1, ht1⟩ : ∃ t1 : Bool, t1 = (tg != r.t) := ⟨_, rfl⟩
    have hd : (tg != r.t) = t1 := ht1.symm
    have Ht1 := Lib.hid ht1
    clear ht1
    go_region_held3 (fun W' => Below W1.heap.size W1 W' ∧ W'.cell? ⟨pc, 0, none⟩ = some (.int .u64 s.key) ∧ W'.cell? ⟨w.heap.size, 0, none⟩ = some (.int .i64 r.c) ∧ W'.cell? ⟨w.heap.size, 1, none⟩ = some (.int .i64 r.n) ∧ W'.cell? ⟨w.heap.size, 2, none⟩ = some (.slice A r.b.length cb) ∧ W'.cell? ⟨w.heap.size, 3, none⟩ = some (.int .u64 r.t)) (first | assumption | exact HS'.out _ (Below.refl _ _).drew | exact HS'.out _ (by assumption)) (first | (go_at_call 61; refine (HT'.out _ (And.left (by assumption))).mono ?_; rintro e wT ⟨rfl, hbT⟩))
    clear hd
    have HB2 := Lib.hid (HB1.out.trans (hbT.mono HB1.out.size))
    have HbT := Lib.hid hbT
    have hws2 := hbT.size
    obtain ⟨_, _, _, u1, u2, _⟩ := HS'.out wT hbT
    have u5 := (hbT.cell (p := ⟨pc, 1, none⟩) hpl).trans z1
    have u6 := (hbT.cell (p := ⟨pc, 2, none⟩) hpl).trans z2
    clear hbT HS' HT' y0 y1 y2 y3 z0 z1 z2
    cases t1 with
    | true =>
      have HR := Lib.hid (show accR σ r = (false, [], 20) by rw [HR.out, if_pos (by simpa using Ht1.out.symm)])
      go_wp2_with (fail)
      go_ret3
      exact AccTo.still Hh.out HB2.out HR.out rfl
    | false =>
    have HR := Lib.hid (HR.out.trans (if_neg (by simpa using Ht1.out.symm)))
    by_cases m1 : s.last < r.n - 1
    · have HR := Lib.hid (HR.out.trans (if_pos m1))
      have hd : decide (s.last < r.n - 1) = true := decide_eq_true m1
      have hwr := Hwr.out
      go_wp2_with (fail)
      go_quiet (fail)
      go_wp2_with (fail)
      go_ret3
      exact AccTo.still Hh.out (HB2.out.trans ((drewN_below wT _).mono HB2.out.size)) HR.out rfl
    have HR := Lib.hid (HR.out.trans (if_neg m1))
    have hd : decide (s.last < r.n - 1) = false := decide_eq_false m1
    have hwr := Hwr.out
    go_wp2_with (fail)
    go_quiet (fail)
    clear hd hwr
    obtain ⟨W3, hW3⟩ : ∃ W3, W3 = wT.drewN nq := ⟨_, rfl⟩
    rw [← hW3]
    have hb3 : Below wT.heap.size wT W3 := by rw [hW3]; exact drewN_below wT _
    have HB3 := Lib.hid (HB2.out.trans (hb3.mono HB2.out.size))
    have a1 := (hb3.cell (p := ⟨w.heap.size, 1, none⟩) (by show w.heap.size < _; omega)).trans u1
    have a2 := (hb3.cell (p := ⟨w.heap.size, 2, none⟩) (by show w.heap.size < _; omega)).trans u2
    have a5 := (hb3.cell (p := ⟨pc, 1, none⟩) (by show pc < _; omega)).trans u5
    have a6 := (hb3.cell (p := ⟨pc, 2, none⟩) (by show pc < _; omega)).trans u6
    have hws3 := hb3.size
    have Hb3 := Lib.hid (HbT.out.trans (hb3.mono HbT.out.size))
    have HBy := Bytes_any ⟨#[98, 111, 100, 121]⟩ (by decide) A cb r.b Hb.out (by omega) W3 (Hr.out.below HB3.out (Nat.le_refl _))
    rw [show strI ⟨#[98, 111, 100, 121]⟩ = bodyLbl by decide] at HBy
    have HBy' := Lib.hid HBy
    clear hW3 hb3 u1 u2 u5 u6 HBy
    go_wp2_with (fail)
    refine HBy'.out.mono ?_
    rintro e W4 ⟨rfl, hb4⟩
    obtain ⟨hh, hhh⟩ : ∃ hh, hh = hashB bodyLbl r.b := ⟨_, rfl⟩
    rw [← hhh]
    have Hhh := Lib.hid hhh
    have HB4 := Lib.hid (HB3.out.trans (hb4.mono HB3.out.size))
    have d1 := (hb4.cell (p := ⟨w.heap.size, 1, none⟩) (by show w.heap.size < _; omega)).trans a1
    have d5 := (hb4.cell (p := ⟨pc, 1, none⟩) (by show pc < _; omega)).trans a5
    have d6 := (hb4.cell (p := ⟨pc, 2, none⟩) (by show pc < _; omega)).trans a6
    have Hb4 := Lib.hid (Hb3.out.trans (hb4.mono Hb3.out.size))
    have hws4 := hb4.size
    clear hhh hb4 HBy' a1 a2 a5 a6
    by_cases m2 : s.last < r.n
    · have HR := Lib.hid (HR.out.trans (if_pos m2))
      have hd : decide (s.last < r.n) = true := decide_eq_true m2
      go_wp2_with (fail)
      go_quiet (fail)
      obtain ⟨W5, hW5⟩ : ∃ W5, W5 = W4.drewN nq := ⟨_, rfl⟩
      rw [← hW5]
      have hb5 : Below W4.heap.size W4 W5 := by rw [hW5]; exact drewN_below W4 _
      have HB5 := Lib.hid (HB4.out.trans (hb5.mono HB4.out.size))
      have Hb5 := Lib.hid (Hb4.out.trans (hb5.mono Hb4.out.size))
      clear hd hW5 hb5 d1 d5 d6
      have hat5 := Hat1.out.kp (Kp.of_below (S := fun _ => False) Hb5.out) (fun e => e) (fun _ _ e => e) (fun _ _ e => e.elim)
      have hwt := waits_any pc (q r.c) s (by have := hok.2.2.1; omega) W5 (by rw [Hpc.out] at hat5 ⊢; exact hat5)
      have Hwt := Lib.hid hwt
      clear hat5 hwt
      go_wp2_with (fail)
      refine Hwt.out.mono ?_
      rintro e W6 ⟨rfl, mq, hmq⟩
      have HB6 := Lib.hid (show Below w.heap.size w W6 by rw [hmq]; exact HB5.out.trans ((drewN_below W5 _).mono HB5.out.size))
      have Hb6 := Lib.hid (show Below W1.heap.size W1 W6 by rw [hmq]; exact Hb5.out.trans ((drewN_below W5 _).mono Hb5.out.size))
      clear hmq
      cases hwt : waitsS s with
      | true =>
        have HR := Lib.hid (show accR σ r = (false, [], 13) by rw [HR.out, hwt]; rfl)
        go_wp2_with (fail)
        go_ret3
        exact AccTo.still Hh.out HB6.out HR.out rfl
      | false =>
        have HR := Lib.hid (show accR σ r = (true, [], 0) by rw [HR.out, hwt]; rfl)
        obtain ⟨A6, c6, cs6, e1, e2, e3, e4⟩ := Hat1.out.kp (Kp.of_below (S := fun _ => False) Hb6.out) (fun e => e) (fun _ _ e => e) (fun _ _ e => e.elim)
        obtain ⟨i0, hi, hz0, hz1, hz2⟩ := info_parts info_old
        obtain ⟨len, hlen⟩ : ∃ len, len = s.l.length := ⟨_, rfl⟩
        rw [← hlen] at e1 e2
        have hl16 : len ≤ 16 := by rw [hlen]; exact hok.2.2.1
        have p2 : W6.cell? ⟨pc, 2, none⟩ = some (.slice A6 len c6) := by simp [World.cell?, e1]
        have hp6 := (Array.getElem?_eq_some_iff.1 e1).1
        obtain ⟨W7, hW7⟩ : ∃ W7, W7 = W6.alloc (.cells #[.int .u64 hh, .bool false, .slice none 0 0] 126) := ⟨_, rfl⟩
        have hn7 : W7.heap[W6.heap.size]? = some (.cells #[.int .u64 hh, .bool false, .slice none 0 0] 126 (0, 0)) := by rw [hW7]; exact heap_alloc_new W6 _
        have hb7 : Below W6.heap.size W6 W7 := by rw [hW7]; exact (Below.refl _ W6).alloc (Nat.le_refl _) _
        have E1 := Lib.hid e1
        have E2 := Lib.hid e2
        have E27 := Lib.hid (e2.kp (Kp.of_below (S := fun _ => False) hb7) (fun _ _ e => e))
        have E3 := Lib.hid e3
        have E4 := Lib.hid e4
        have Hlen := Lib.hid hlen
        have Hb7 := Lib.hid hb7
        have Hn7 := Lib.hid hn7
        have HW7 := Lib.hid hW7
        clear e1 e2 e3 e4 hlen hb7 hn7 hW7
        go_wp2_with (at_builtin; rw [← HW7.out]; refine wpList_append_arr rfl _ _ 116 rfl 126 i0 (.agg #[.int .u64 0, .bool false, .slice none 0 0]) 3 40 Try.underlying116 hi hz0 hz1 hz2 rfl (by decide) A6 len c6 cs6 rfl E27.out ⟨W6.heap.size, 0, none⟩ 1 1 [.int .u64 hh, .bool false, .slice none 0 0] rfl rfl (World.news_of_block Hn7.out) (by simp [Value.oneCell']) (by unfold maxLen; omega) (by omega) (by omega) ?_; intro g8 o8 c8 W8 har hkp hg8; have Har := Lib.hid har; have Hkp := Lib.hid hkp; have Hg8 := Lib.hid hg8; clear har hkp hg8; have h8 := (Hkp.out.block pc (Nat.lt_of_lt_of_le hp6 Hb7.out.size) (arr_ne E2.out E1.out (by decide) Hb7.out.size Hg8.out)).trans ((Hb7.out.block pc hp6).trans E1.out); have c82 : W8.cell? ⟨pc, 2, none⟩ = some (.slice A6 len c6) := (by simp [World.cell?, h8]); have f82 : W8.frozen? ⟨pc, 2, none⟩ = false := (by simp [World.frozen?, h8]); have H8 := Lib.hid h8; clear h8)
        obtain ⟨W9, hW9⟩ : ∃ W9, W9 = W8.setCell ⟨pc, 2, none⟩ (.slice (some ⟨g8, o8, none⟩) (len + 1) c8) := ⟨_, rfl⟩
        rw [← hW9]
        have h9 : W9.heap[pc]? = some (.cells #[.int .u64 s.key, .int .i64 s.last, .slice (some ⟨g8, o8, none⟩) (len + 1) c8] 118 (0, 0)) := by rw [hW9]; simp [World.setCell, Array.getElem?_modify, H8.out]
        have c92 : W9.cell? ⟨pc, 2, none⟩ = some (.slice (some ⟨g8, o8, none⟩) (len + 1) c8) := by simp [World.cell?, h9]
        have f92 : W9.frozen? ⟨pc, 2, none⟩ = false := by simp [World.frozen?, h9]
        have H9 := Lib.hid h9
        have HW9 := Lib.hid hW9
        have hsl : s.last ≤ 9223372036854775806 := by omega
        clear h9 hW9 c82 f82 p2
        have k9 : Kp (fun k => k = pc ∨ some g8 = some k) w W9 := by
          rw [HW9.out]
          exact (((Kp.of_below (S := fun k => k = pc ∨ some g8 = some k) HB6.out).trans (Kp.of_below (S := fun k => k = pc ∨ some g8 = some k) Hb7.out) (fun _ _ e => e)).trans Hkp.out (fun j _ e => .inr (by rw [e]))).set (p := ⟨pc, 2, none⟩) (fun _ => .inl rfl) _
        have k69 : Kp (fun k => k = pc ∨ k = g8) W6 W9 := by
          rw [HW9.out]
          exact ((Kp.of_below (S := fun k => k = pc ∨ k = g8) Hb7.out).trans Hkp.out (fun j _ e => .inr e)).set (p := ⟨pc, 2, none⟩) (fun _ => .inl rfl) _
        have hne8 : ¬ pc = g8 := arr_ne E2.out E1.out (by decide) Hb7.out.size Hg8.out
        have ha9 : Arr W9 126 3 (some ⟨g8, o8, none⟩) (len + 1) c8 (cs6 ++ [.int .u64 hh, .bool false, .slice none 0 0]) := by
          rw [HW9.out]
          exact Har.out.kp ((Kp.refl (fun k => k = pc) W8).set (p := ⟨pc, 2, none⟩) (fun _ => rfl) _) (fun a ea => by cases ea; exact fun e => hne8 e.symm)
        have hl9 : Lay 3 (OldE W9) (s.l ++ [⟨hh, false, []⟩]) (cs6 ++ [.int .u64 hh, .bool false, .slice none 0 0]) := by
          refine lay_kpO (Lay.append E3.out (Lay.one (x := (⟨hh, false, []⟩ : Old)) rfl ⟨.slice none 0 0, rfl, ByS.nil _⟩)) k69 ?_
          rintro j hj (rfl | rfl)
          · exact nob_cells E1.out (by decide)
          · rcases Hg8.out with ⟨a0, ea, e⟩ | e
            · obtain ⟨_, _, cur, b3⟩ := E2.out.blk a0 ea
              rw [← e] at b3
              exact nob_cells b3 (by decide)
            · have := Hb7.out.size; omega
        have hg8q : q r.c = some g8 ∨ w.heap.size ≤ g8 := by
          rcases Hg8.out with ⟨a0, ea, e⟩ | e
          · left; rw [E4.out, ea, e]; rfl
          · right; have := Hb7.out.size; have := HB6.out.size; omega
        have K9 := Lib.hid k9
        have Ha9 := Lib.hid ha9
        have Hl9 := Lib.hid hl9
        have Hg8q := Lib.hid hg8q
        clear k9 k69 ha9 hl9 hg8q hne8
        have HAS := Lib.hid (show accS σ r = updS σ r.c (accNew s (hashB bodyLbl r.b)) by simp [accS, HR.out, Hs.out])
        by_cases hx : len ≤ 15
        case' pos =>
          have hw16 : IntKind.i64.wrap ((len : Int) + 1 - 16) = (len : Int) - 15 := by rw [show (len : Int) + 1 - 16 = (len : Int) - 15 by omega]; exact IntWalk.i64_in _ (by omega)
          have hmx : mxI 0 ((len : Int) - 15) = 0 := by unfold mxI; split <;> omega
          have hn0 : (0 : Int) ≤ (len : Int) + 1 := by omega
        case' neg =>
          obtain rfl : len = 16 := by omega
          have hmx : mxI 0 1 = 1 := by decide
          have hw1 : IntKind.i64.wrap 1 = 1 := by decide
          have hc17 : 17 ≤ c8 := Har.out.2.1
          have hc8a : ¬ c8 = 1 := by omega
        all_goals
          go_still_tail 15, (by kernel_rfl)
          change wpList _ _ _ _ _ W9.drew
          obtain ⟨W10, hW10⟩ : ∃ W10, W10 = W9.drew := ⟨_, rfl⟩
          rw [← hW10]
          have h10 : W10.heap = W9.heap := by rw [hW10]; rfl
          have c102 := (show W10.cell? ⟨pc, 2, none⟩ = W9.cell? ⟨pc, 2, none⟩ by simp [World.cell?, h10]).trans c92
          have f102 := (show W10.frozen? ⟨pc, 2, none⟩ = W9.frozen? ⟨pc, 2, none⟩ by simp [World.frozen?, h10]).trans f92
          have c101 : W10.cell? ⟨pc, 1, none⟩ = some (.int .i64 s.last) := by simp [World.cell?, h10, H9.out]
          have f101 : W10.frozen? ⟨pc, 1, none⟩ = false := by simp [World.frozen?, h10, H9.out]
          have H10 := Lib.hid h10
          have HW10 := Lib.hid hW10
          have hls : IntKind.i64.wrap (s.last + 1) = s.last + 1 := IntWalk.i64_in _ (by have := hok.2.1.1; omega)
          clear h10 hW10 c92 f92
          go_wp2_with (fail)
          go_ret3
          refine ⟨⟨_, by rw [HR.out]; rfl, by rw [HR.out]; exact ByS.nil _⟩, ?_⟩
          rw [HAS.out, accNew, ← Hhh.out]
          have hok2 := hok
          obtain ⟨o1, o2, o3, o4, o5⟩ := hok2
          have hlen := Hlen.out
        · have hl' : last16 (s.l ++ [(⟨hh, false, []⟩ : Old)]) = (s.l ++ [(⟨hh, false, []⟩ : Old)]).drop 1 := by unfold last16; rw [show (s.l ++ [(⟨hh, false, []⟩ : Old)]).length - 16 = 1 by simp; omega]
          rw [hl']
          exact acc_fin H1.out hg H2.out H3.out h4 H5.out H6.out H7.out Hs.out Hpc.out H9.out K9.out HW10.out (by rw [List.length_drop, List.length_append, ← Hlen.out]; exact Ha9.out.drop (k := 1) (by omega)) (Lay.drop 1 Hl9.out) Hg8q.out
            ⟨o1, by show (0 : Int) ≤ s.last + 1 ∧ s.last + 1 ≤ 9223372036854775807; omega, by simp; omega, by simp; omega, fun o ho => by rcases List.mem_append.1 (List.mem_of_mem_drop ho) with ho | ho; exact o5 o ho; rw [List.mem_singleton.1 ho]; exact ⟨by simp, Byt.nil⟩⟩ (by simp; omega)
        · have hl' : last16 (s.l ++ [(⟨hh, false, []⟩ : Old)]) = s.l ++ [(⟨hh, false, []⟩ : Old)] := by unfold last16; rw [show (s.l ++ [(⟨hh, false, []⟩ : Old)]).length - 16 = 0 by simp; omega]; rfl
          rw [hl']
          exact acc_fin H1.out hg H2.out H3.out h4 H5.out H6.out H7.out Hs.out Hpc.out H9.out K9.out HW10.out (by rw [List.length_append, ← Hlen.out]; exact Ha9.out) Hl9.out Hg8q.out
            ⟨o1, by show (0 : Int) ≤ s.last + 1 ∧ s.last + 1 ≤ 9223372036854775807; omega, by simp; omega, by simp; omega, fun o ho => by rcases List.mem_append.1 ho with ho | ho; exact o5 o ho; rw [List.mem_singleton.1 ho]; exact ⟨by simp, Byt.nil⟩⟩ (by simp; omega)
    · have HR := Lib.hid (HR.out.trans (if_neg m2))
      have hd : decide (s.last < r.n) = false := decide_eq_false m2
      obtain ⟨d, hdd⟩ : ∃ d, d = s.last - r.n := ⟨_, rfl⟩
      obtain ⟨len, hlen⟩ : ∃ len, len = s.l.length := ⟨_, rfl⟩
      have hl16 : len ≤ 16 := by rw [hlen]; exact hok.2.2.1
      have hlm := hok.2.1
      have HR := HR.out
      rw [← hlen, ← hdd] at HR
      rw [← hlen] at d6
      have hw1 : IntKind.i64.wrap ((len : Int) - 1) = (len : Int) - 1 := IntWalk.i64_in _ (by omega)
      have hw2 : IntKind.i64.wrap (s.last - r.n) = d := by rw [hdd]; exact IntWalk.i64_in _ (by omega)
      have hw3 : IntKind.i64.wrap ((len : Int) - 1 - d) = (len : Int) - 1 - d := IntWalk.i64_in _ (by omega)
      have Hlen := Lib.hid hlen
      have Hdd := Lib.hid hdd
      have HR := Lib.hid HR
      clear hlen hdd
      by_cases m3 : (len : Int) - 1 - d < 0
      · have HR := Lib.hid (HR.out.trans (if_pos m3))
        have hd3 : decide ((len : Int) - 1 - d < 0) = true := decide_eq_true m3
        go_wp2_with (fail)
        go_quiet (fail)
        go_wp2_with (fail)
        go_quiet (fail)
        go_wp2_with (fail)
        go_ret3
        exact AccTo.still Hh.out (HB4.out.trans ((drewN_below W4 _).mono HB4.out.size)) HR.out rfl
      · have HR := Lib.hid (HR.out.trans (if_neg m3))
        obtain ⟨k, hk⟩ : ∃ k : Nat, (len : Int) - 1 - d = k := ⟨((len : Int) - 1 - d).toNat, by omega⟩
        have hw4 : IntKind.i64.wrap ((len : Int) - 1 - d) = (k : Int) := hw3.trans hk
        clear hw3
        have hkl : k < len := by
          have h1 : r.n ≤ s.last := Int.not_lt.1 m2
          have h2 := Hdd.out
          omega
        have HR := HR.out
        rw [hk, Int.toNat_natCast] at HR
        have HR := Lib.hid HR
        clear hk m3
        have hd3 : decide ((k : Int) < 0) = false := decide_eq_false (by omega)
        go_wp2_with (fail)
        go_quiet (fail)
        obtain ⟨W4a, hW4a⟩ : ∃ W4a, W4a = W4.drewN nq := ⟨_, rfl⟩
        rw [← hW4a]
        have hb4a : Below W4.heap.size W4 W4a := by rw [hW4a]; exact drewN_below W4 _
        have d1a := (hb4a.cell (p := ⟨w.heap.size, 1, none⟩) (by show w.heap.size < _; omega)).trans d1
        have d5a := (hb4a.cell (p := ⟨pc, 1, none⟩) (by show pc < _; omega)).trans d5
        have d6a := (hb4a.cell (p := ⟨pc, 2, none⟩) (by show pc < _; omega)).trans d6
        have Hb4a := Lib.hid hb4a
        clear hW4a hb4a d1 d5 d6 nq
        go_wp2_with (fail)
        go_quiet (fail)
        clear hd hw1 hw2 hw4
        obtain ⟨W5, hW5⟩ : ∃ W5, W5 = W4a.drewN nq := ⟨_, rfl⟩
        rw [← hW5]
        have hb5 : Below W4.heap.size W4 W5 := by rw [hW5]; exact Hb4a.out.trans ((drewN_below W4a _).mono Hb4a.out.size)
        have HB5 := Lib.hid (HB4.out.trans (hb5.mono HB4.out.size))
        have Hb5 := Lib.hid (Hb4.out.trans (hb5.mono Hb4.out.size))
        have hws5 := hb5.size
        clear hW5 hb5 d1a d5a d6a
        obtain ⟨A5, c5, cs5, e1, e2, e3, e4⟩ := Hat1.out.kp (Kp.of_below (S := fun _ => False) Hb5.out) (fun e => e) (fun _ _ e => e) (fun _ _ e => e.elim)
        obtain ⟨o, ho⟩ : ∃ o, s.l[k]? = some o := ⟨_, List.getElem?_eq_getElem (by rw [← Hlen.out]; exact hkl)⟩
        have HR := HR.out
        rw [ho] at HR
        have HR := Lib.hid HR
        obtain ⟨ch, g1, ⟨v, rfl, hv⟩, g3⟩ := e3.get ho
        obtain ⟨gb, off, rfl, q0, _⟩ := e2.cell (j := k * 3 + 0) (u := .int .u64 o.h) (by rw [g3 0 (by omega)]; rfl)
        obtain ⟨_, _, ee1, q1, _⟩ := e2.cell (j := k * 3 + 1) (u := .bool o.ans) (by rw [g3 1 (by omega)]; rfl)
        cases ee1
        obtain ⟨_, _, ee2, q2, _⟩ := e2.cell (j := k * 3 + 2) (u := v) (by rw [g3 2 (by omega)]; rfl)
        cases ee2
        have p2 : W5.cell? ⟨pc, 2, none⟩ = some (.slice (some ⟨gb, off, none⟩) len c5) := by simp [World.cell?, e1, Hlen.out]
        rw [← Nat.add_assoc] at q0 q1 q2
        rw [Nat.add_zero] at q0
        obtain ⟨Av, cv, rfl, hrv, hcv⟩ := hv.rd
        have Hv := Lib.hid hv
        have Hrv := Lib.hid hrv
        have hob := hok.2.2.2.2 o (List.mem_of_getElem? ho)
        have hk0 : (0 : Int) ≤ (k : Int) := by omega
        have hkl' : (k : Int) < (len : Int) := by omega
        clear e1 e2 e3 e4 ho g1 g3 hv hrv
        obtain ⟨W6, hW6⟩ : ∃ W6, W6 = W5.alloc (.cells #[.int .u64 o.h, .bool o.ans, .slice Av o.a.length cv] 126) := ⟨_, rfl⟩
        have hB6 : Below w.heap.size w W6 := by rw [hW6]; exact HB5.out.trans (((Below.refl _ W5).alloc (Nat.le_refl _) _).mono HB5.out.size)
        have hb56 : Below W5.heap.size W5 W6 := by rw [hW6]; exact (Below.refl _ W5).alloc (Nat.le_refl _) _
        have HB6 := Lib.hid hB6
        have Hb56 := Lib.hid hb56
        have HW6 := Lib.hid hW6
        clear hB6 hb56 hW6
        rw [← Hhh.out] at HR
        obtain ⟨t2, ht2⟩ : ∃ t2 : Bool, t2 = (o.h != hh) := ⟨_, rfl⟩
        have hd2 : (o.h != hh) = t2 := ht2.symm
        have Ht2 := Lib.hid ht2
        clear ht2
        cases t2 with
        | true =>
          have HR := Lib.hid (show accR σ r = (false, [], 8) by rw [HR.out]; exact if_pos (by simpa using Ht2.out.symm))
          go_wp2_with (fail)
          go_ret3
          exact AccTo.still Hh.out (by rw [← HW6.out]; exact HB6.out) HR.out rfl
        | false =>
          have HR := Lib.hid (HR.out.trans (if_neg (by simpa using Ht2.out.symm)))
          cases ha : o.ans with
          | false =>
            have HR := Lib.hid (show accR σ r = (false, [], 13) by rw [HR.out, ha]; rfl)
            have HW := HW6.out
            rw [ha] at HW q1
            have HW6 := Lib.hid HW
            clear HW ha
            go_wp2_with (fail)
            go_ret3
            exact AccTo.still Hh.out (by rw [← HW6.out]; exact HB6.out) HR.out rfl
          | true =>
            have HR := Lib.hid (show accR σ r = (false, o.a, 0) by rw [HR.out, ha]; rfl)
            have HW := HW6.out
            rw [ha] at HW q1
            have HW6 := Lib.hid HW
            clear HW ha
            go_wp2_with (fail)
            rw [← HW6.out]
            refine (Clone_any Av cv o.a (by omega) W6 (Hrv.out.below Hb56.out (Nat.le_refl _))).mono ?_
            rintro e W7 ⟨⟨v7, rfl, ho7⟩, hb7⟩
            have Ho7 := Lib.hid ho7
            have HB7 := Lib.hid (HB6.out.trans (hb7.mono HB6.out.size))
            clear ho7 hb7
            go_wp2_with (fail)
            go_ret3
            refine ⟨⟨_, by rw [HR.out]; rfl, by rw [HR.out]; exact ⟨_, Ho7.out⟩⟩, F, ?_, Kp.of_below HB7.out, fun k hk => .inl hk⟩
            rw [show accS σ r = σ by simp [accS, HR.out]]
            exact Hh.out.below HB7.out
end Go.Proofs.Ytajdkcpcgfipbaa
