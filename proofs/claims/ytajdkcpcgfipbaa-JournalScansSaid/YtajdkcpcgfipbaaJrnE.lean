/- journal.Scan returns the records at the beginning of some bytes, and their length. -/
import Derived.Test.YtajdkcpcgfipbaaJrnD
import Derived.RegionIn
namespace Go.Proofs.Ytajdkcpcgfipbaa
open Go.RowKit Go.Wm Go.Shelf
attribute [local go_sem] min_int max_int
attribute [local go_sem] Oper.semAt_some

set_option maxRecDepth 100000 in
set_option maxHeartbeats 1000000 in
theorem records1_nil (l Bs n₀ c : Nat) (A : Option Addr) (J : List Rec → World → Prop) (W : World) (hBs : W.cell? ⟨Bs, 0, none⟩ = some (.slice A 0 c)) (h0 : J [] W) :
    CallsIn Fence.wide 8 Try.prog 113 #[.func (.yield l) #[] #[], .pointer (some ⟨Bs, 0, none⟩)] W fun e W' => (∃ v, e = .returned v) ∧
      ((∃ ys, ((ys.map fun t : Rec => t.2) = scanB [] ∧ ∀ t ∈ ys, RecIn n₀ W' t) ∧ J ys W') ∨ (∃ pre, True ∧ (fun (_ : List Rec) (_ : World) => False) pre W')) := by
  refine callsIn_of_wp Try.func113 rfl trivial ?_ rfl
  simp only [Try.ntmps113, List.size_toArray, List.length_cons, List.length_nil, Nat.reduceAdd, Nat.reduceSub, Array.replicate_succ, Array.replicate_zero, List.push_toArray, List.append_toArray, List.nil_append, List.cons_append]
  have H0 := Lib.hid h0
  clear h0
  gi_wp2
  gi_loopw [3, 4] (fun a i wr => a = .int .i64 0 ∧ i = .int .i64 0 ∧ wr.cell? ⟨Bs, 0, none⟩ = some (.slice A 0 c) ∧ Hid (J [] wr)) (fun _ _ _ => 0)
  case atStart => exact ⟨rfl, rfl, hBs, H0⟩
  case round =>
    obtain ⟨rfl, rfl, hbs, hJs⟩ := hrel
    gi_wp2
    go_end0
    exact ⟨⟨_, rfl⟩, .inl ⟨[], ⟨by simp [scanB, scanP], by simp⟩, hJs.out⟩⟩

theorem records_seq (Bs : Nat) (A : Option Addr) (c : Nat) (xs : List Int) (hx : Byt xs) (hcap : xs.length ≤ c) (hs : xs.length ≤ 1099511627776) (w0 w : World) (hB0 : Below w0.heap.size w0 w) (hBl : Bs < w.heap.size)
    (hc : w.cell? ⟨Bs, 0, none⟩ = some (.slice A xs.length c)) (hr : Rd .u8 w0 A xs) :
    SeqH Fence.wide 8 Try.prog 113 #[.pointer (some ⟨Bs, 0, none⟩)] recEnc (fun pre t W => RecIn w0.heap.size W t ∧ pre.length < xs.length) (KR w0.heap.size Bs) (fun ys W => (ys.map fun t : Rec => t.2) = scanB xs ∧ ∀ t ∈ ys, RecIn w0.heap.size W t) (fun _ _ => True) w := by
  intro l J Jx W hW hJ hJx hY h0
  have hc' := (hW.cell (p := ⟨Bs, 0, none⟩) hBl).trans hc
  have hB1 := hB0.trans (hW.mono hB0.size)
  rcases hr with rfl | ⟨b, off, rfl, hb, hcs⟩
  · refine (records1_nil l Bs w0.heap.size c A J W hc' h0).mono ?_
    rintro e W' ⟨he, h | ⟨_, _, h⟩⟩
    · exact ⟨he, .inl h⟩
    · exact h.elim
  · exact records1_in l Bs w0.heap.size b off c xs hx hcap hs hb J Jx hJ hY W (Nat.le_trans hB1.size (Nat.le_refl _)) (Nat.lt_of_lt_of_le hBl hW.size) hc' ((Rd.below_lt (.inr ⟨b, off, rfl, hb, hcs⟩) hB1 hb)) h0

set_option maxHeartbeats 1000000 in
theorem records_in (A : Option Addr) (l c : Nat) (w : World) :
    CallsIn Fence.wide 8 Try.prog 86 #[.slice A l c] w fun e w' => e = .returned (.func (.func 113) #[] #[.pointer (some ⟨w.heap.size, 0, none⟩)]) ∧ w' = w.alloc (.cells #[.slice A l c] 23) := by
  refine callsIn_of_wp Try.func86 rfl trivial ?_ rfl
  simp only [Try.ntmps86, List.size_toArray, List.length_cons, List.length_nil, Nat.reduceAdd, Nat.reduceSub, Array.replicate_succ, Array.replicate_zero, List.push_toArray, List.append_toArray, List.nil_append, List.cons_append]
  gi_wp2
  go_ret
  exact ⟨rfl, rfl⟩

def lastAt (pre : List Rec) : Nat := (pre.getLast?.map fun t => t.2.2).getD 0
theorem lastAt_snoc (pre : List Rec) (t : Rec) : lastAt (pre ++ [t]) = t.2.2 := by simp [lastAt]
theorem info_bs : (Try.prog.info? 23).map (fun i => (i.zero, i.size, i.bytes)) = some (some (.slice none 0 0), 1, 24) := by kernel_rfl

set_option maxRecDepth 100000 in
set_option maxHeartbeats 2000000 in
theorem Scan_any (A : Option Addr) (c : Nat) (xs : List Int) (hx : Byt xs) (hcap : xs.length ≤ c) (hs : xs.length ≤ 1099511627776) (w : World) (hr : Rd .u8 w A xs) :
    Calls Try.prog 43 #[.slice A xs.length c] w fun e w' => (∃ (v : Value) (ys : List Rec), e = .returned (.tuple #[v, .int .i64 (lastAt ys : Int)]) ∧ (ys.map fun t : Rec => t.2) = scanB xs ∧ w'.ownsRow w.heap.size 23 1 v ys.length (ys.map fun t => t.1) ∧ ∀ t ∈ ys, RecIn w.heap.size w' t) ∧ Below w.heap.size w w' := by
  obtain ⟨i0, hi, hz0, hz1, hz2⟩ := info_parts info_bs
  have Hr := Lib.hid hr
  clear hr
  refine (callsIn_wide (n := 9)).1 ?_
  refine callsIn_of_wp_marks Try.func43 rfl trivial ?_ rfl
  simp only [Try.ntmps43, List.size_toArray, List.length_cons, List.length_nil, Nat.reduceAdd, Nat.reduceSub, Array.replicate_succ, Array.replicate_zero, List.push_toArray, List.append_toArray, List.nil_append, List.cons_append]
  gi_wp2_with (refine ⟨trivial, ?_⟩; gi_at_call 86; refine (records_in _ _ _ _).mono ?_; rintro e w' ⟨rfl, rfl⟩)
  have b0 := ((Boxed.new w 61 (.slice none 0 0)).alloc (.cells #[.int .i64 0] 3)).alloc (.cells #[.slice A xs.length c] 23)
  have b1 := (Boxed.new (w.alloc (.cells #[.slice none 0 0] 61)) 3 (.int .i64 0)).alloc (.cells #[.slice A xs.length c] 23)
  have b2 := Boxed.new ((w.alloc (.cells #[.slice none 0 0] 61)).alloc (.cells #[.int .i64 0] 3)) 23 (.slice A xs.length c)
  have hB0 : Below w.heap.size w (((w.alloc (.cells #[.slice none 0 0] 61)).alloc (.cells #[.int .i64 0] 3)).alloc (.cells #[.slice A xs.length c] 23)) := (((Below.refl _ w).alloc (Nat.le_refl _) _).alloc (by simp) _).alloc (by simp; omega) _
  obtain ⟨W0, hW0⟩ : ∃ W0, ((w.alloc (.cells #[.slice none 0 0] 61)).alloc (.cells #[.int .i64 0] 3)).alloc (.cells #[.slice A xs.length c] 23) = W0 := ⟨_, rfl⟩
  have hs0 : W0.heap.size = w.heap.size + 3 := by rw [← hW0]; simp
  simp only [World.size_alloc] at b1 b2
  rw [hW0] at b0 b1 b2 hB0 ⊢
  clear hW0
  have HB2 := Lib.hid b2
  refine rangeHand rfl (by omega) (gf := 113) (lb := #[.pointer (some ⟨w.heap.size + 1 + 1, 0, none⟩)]) rfl trivial (enters_of Try.func113 (by kernel_rfl) rfl)
    (records_seq (w.heap.size + 1 + 1) A c xs hx hcap hs w W0 hB0 (by omega) b2.cell Hr.out) KR.trans (KR.put (by omega) (by omega)) (Below.refl _ _) (fun _ => rfl)
    (OwnFrom.and (Own.from (fun _ _ _ _ h _ _ => h) _) (fun s X Y row hs hg hr t ht => (hs t ht).kept hg (by
      rcases (hs t ht).2 with ⟨e, _⟩ | ⟨g, cap, cur, e, _, hgb, _⟩
      · exact .inl (by rw [e]; rfl)
      · refine .inr fun e' => ?_
        rw [e] at e'
        obtain ⟨_, o, ho, hc⟩ := hr g e'.symm
        rw [hgb] at ho; cases ho; cases hc)))
    (fun _ _ _ _ h _ _ => h)
    (fun pre W => (((∃ v, Boxed W w.heap.size 61 v ∧ W.ownsRow (w.heap.size + 3) 23 1 v pre.length (pre.map fun t : Rec => t.1) ∧ True) ∧ Boxed W (w.heap.size + 1) 3 (.int .i64 (lastAt pre : Int))) ∧ Boxed W (w.heap.size + 1 + 1) 23 (.slice A xs.length c)) ∧ Below w.heap.size w W)
    (fun _ _ _ => False)
    (OwnFrom.and (OwnFrom.and (OwnFrom.and (Own.from (holdsRow_own (w.heap.size + 3) w.heap.size 61 23 1 (fun pre : List Rec => pre.length) (fun pre => pre.map fun t : Rec => t.1) (fun _ _ => True)) _) (Own.from (boxed_own _ _ (fun pre : List Rec => Value.int .i64 (lastAt pre : Int))) _)) (Own.from (boxed_own _ _ (fun _ : List Rec => Value.slice A xs.length c)) _)) (ownFrom_below (Nat.le_refl _) (by omega)))
    (fun _ _ _ _ _ hs _ _ => hs)
    ⟨⟨⟨⟨_, b0, World.ownsRow_nil _ _ _ _, trivial⟩, b1⟩, b2⟩, hB0⟩
    (fun pre x a' W => a' = { tmps := #[.slice A xs.length c, undef, .slice none 0 0, .int .i64 0, .pointer (some ⟨w.heap.size, 0, none⟩), .pointer (some ⟨w.heap.size + 1, 0, none⟩), x.1, .int .i64 (x.2.2 : Int), .slice A xs.length c, .func (.func 113) #[] #[.pointer (some ⟨w.heap.size + 1 + 1, 0, none⟩)], x.1, .int .i64 (x.2.2 : Int), undef, undef, undef, undef, undef, undef, undef], defers := [] } ∧ pre.length < xs.length ∧ ∃ A1 c1, x.1 = .slice A1 x.2.1.length c1)
    (fun _ _ _ _ _ _ _ h _ _ => h) ?assign ?body ?done ?stop
  case assign =>
    rintro l pre x W K hi ⟨hin, hlen⟩ hK
    have HK := Lib.hid (hK _ W (KeepsFrom.refl _ _) (KR.refl _ _ _) hi ⟨rfl, hlen, own_slice' hin⟩)
    clear hK hi
    obtain ⟨x1, x2, x3⟩ := x
    dsimp only [recEnc] at HK ⊢
    gi_wp2
    exact HK.out
  case body =>
    rintro l pre x a' W hl _ ⟨⟨⟨⟨v, hv, hrow, _⟩, hn⟩, hbB⟩, hB⟩ ⟨rfl, hlen, A1, c1, hx1⟩
    have hc := hv.cell
    have hszW := hB.size
    have hBW : w.heap.size + 3 ≤ W.heap.size := by have := hbB.lt; omega
    obtain ⟨x1, x2, x3⟩ := x
    dsimp only at hx1 ⊢
    subst hx1
    have hlo : ∀ k, some k = v.ownBlock → w.heap.size + 3 ≤ k := fun k e => (hrow.lt k e.symm).1
    gi_wp2_with (gi_at_builtin; refine wpListIn_append_own _ rfl _ _ 61 rfl (w.heap.size + 3) 23 i0 (.slice none 0 0) 1 24 Try.underlying61 hi hz0 hz1 hz2 rfl (by decide) _ _ _ rfl (hrow.alloc _) ⟨W.heap.size, 0, none⟩ 1 1 [.slice A1 x2.length c1] rfl rfl (cell_one_new _ _ _) (by simp [Value.oneCell']) (by unfold maxLen; omega) (by omega) (by have := hBW; simp; omega) ?_; intro v' w1 hown' hgrow _; obtain ⟨g', cap', rfl⟩ := ownsRow_succ hown'; obtain ⟨hv1, hv2, hr2, hk2, hb2⟩ := hv.appended (by decide) (own_to (base' := w.heap.size) hrow (by omega)) hB.size (Nat.le_refl _) (own_to (base' := w.heap.size) hown' (by omega)) hgrow; have hc1 := hv1.cell; have hf1 := hv1.frozen; have hkp1 := ((Kp.refl (fun k => some k = v.ownBlock) W).alloc _).trans (Kp.of_grown (S := fun k => some k = v.ownBlock) hgrow (fun k e => e.symm)) (fun _ _ e => e); have hnn := hn.kp hkp1 (fun e => by have := hlo _ e; omega); have hcn := hnn.cell; have hfn := hnn.frozen; have Ho := Lib.hid hown'; have Hkp1 := Lib.hid hkp1; have Hv1 := Lib.hid hv1; clear hgrow hown' hv2 hr2 hk2 hb2 hkp1 hnn hv1)
    have hS : Kp (fun k => k = w.heap.size ∨ k = w.heap.size + 1 ∨ some k = v.ownBlock) W ((w1.setCell ⟨w.heap.size, 0, none⟩ (.slice (some ⟨g', 0, none⟩) (pre.length + 1) cap')).setCell ⟨w.heap.size + 1, 0, none⟩ (.int .i64 (x3 : Int))) :=
      ((Hkp1.out.mono (S' := fun k => k = w.heap.size ∨ k = w.heap.size + 1 ∨ some k = v.ownBlock) (fun _ _ e => Or.inr (Or.inr e))).set (p := ⟨w.heap.size, 0, none⟩) (fun _ => Or.inl rfl) _).set (p := ⟨w.heap.size + 1, 0, none⟩) (fun _ => Or.inr (Or.inl rfl)) _
    have hSlo : ∀ k, (k = w.heap.size ∨ k = w.heap.size + 1 ∨ some k = v.ownBlock) → w.heap.size ≤ k := fun k e => by
      rcases e with e | e | e
      · omega
      · omega
      · have := hlo k e; omega
    have hbB' := hbB.kp hS (by rintro (e | e | e); omega; omega; have := hlo _ e; omega)
    have hBel := hS.below (B := w.heap.size) (by omega) hSlo
    refine ⟨KeepsFrom.of_kp hS ?_, ⟨hBel, Eq.trans hbB' (Eq.symm hbB), ?_⟩, ⟨⟨⟨_, (Hv1.out.set _).other (by omega) _, ?_, trivial⟩, ?_⟩, hbB'⟩, hB.trans hBel⟩
    · rintro k o (rfl | rfl | e) ho
      · rw [show W.heap[w.heap.size]? = _ from hv] at ho; cases ho; rfl
      · rw [show W.heap[w.heap.size + 1]? = _ from hn] at ho; cases ho; rfl
      · exact own_cells hrow e ho
    · intro k cs f hk
      refine (hS.block k (Array.getElem?_eq_some_iff.1 hk).1 ?_).trans hk
      rintro (rfl | rfl | e)
      · rw [show W.heap[w.heap.size]? = _ from hv] at hk; cases hk
      · rw [show W.heap[w.heap.size + 1]? = _ from hn] at hk; cases hk
      · exact own_ne_blk hrow hk (by decide) k e.symm rfl
    · have hrow2 := own_kp Ho.out (((Kp.refl (fun k => k < w.heap.size + 3) w1).set (p := ⟨w.heap.size, 0, none⟩) (fun _ => by show w.heap.size < w.heap.size + 3; omega) (.slice (some ⟨g', 0, none⟩) (pre.length + 1) cap')).set (p := ⟨w.heap.size + 1, 0, none⟩) (fun _ => by show w.heap.size + 1 < w.heap.size + 3; omega) (.int .i64 (x3 : Int))) (fun b e q => by have := (Ho.out.lt b e).1; omega)
      simpa using hrow2
    · rw [lastAt_snoc]
      exact ((hn.kp Hkp1.out (fun e => by have := hlo _ e; omega)).other (by omega) _).set _
  case done =>
    rintro D ys W hD ⟨hys, hin⟩ ⟨⟨⟨⟨v, hv, hrow, _⟩, hn⟩, hbB⟩, hB⟩ hK
    have hc := hv.cell
    have hcn := hn.cell
    have Hin := Lib.hid hin
    have Hys := Lib.hid hys
    have Hrow := Lib.hid hrow
    have HK := Lib.hid hK
    clear hin hys hrow hK
    gi_wp2
    gi_region
    all_goals
      gi_wp2
      have hKd : W.drew.heap[D]? = some (.deferred (some [])) := HK.out
      refine ⟨by simp, .inl ⟨_, _, rfl, run_takeDeferred hKd, ?_⟩⟩
      refine ⟨_, results_tmp2 rfl _ _ _, ⟨v, ys, rfl, Hys.out, ownsRow_putObj (W := W.drew) (own_to (base' := w.heap.size) Hrow.out (by omega)) _ hKd rfl, fun t ht => ownsRow_putObj (W := W.drew) (Hin.out t ht) _ hKd rfl⟩, ?_⟩
      exact (hB.drew).trans (belowK_b (w := w) (Nat.le_refl _) W.drew D _ _ (by omega) hKd rfl rfl)
  case stop =>
    rintro D c pre W _ _ h _
    exact h.elim
end Go.Proofs.Ytajdkcpcgfipbaa
