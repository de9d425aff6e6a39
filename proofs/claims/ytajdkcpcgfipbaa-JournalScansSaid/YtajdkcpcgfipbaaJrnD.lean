/- journal.records hands the records of bytes to a loop body. -/
import Derived.Test.YtajdkcpcgfipbaaJrnC
namespace Go.Proofs.Ytajdkcpcgfipbaa
open Go.RowKit Go.Wm Go.Shelf
attribute [local go_sem] min_int max_int
attribute [local go_sem] Oper.semAt_some

/-- a record that is handed over: the slice, its bytes, the number of bytes up to its end -/
abbrev Rec := Value × List Int × Nat
def recEnc (t : Rec) : Array Value := #[t.1, .int .i64 (t.2.2 : Int)]
/-- the slice is there -/
def RecIn (n₀ : Nat) (W : World) (t : Rec) : Prop := W.ownsRow n₀ 5 1 t.1 t.2.1.length (t.2.1.map (.int .u8))
/-- WHAT A ROUND KEEPS: what lay below n₀, the box of the bytes, and every block of bytes -/
structure KR (n₀ Bs : Nat) (W W' : World) : Prop where
  below : Below n₀ W W'
  box : W'.heap[Bs]? = W.heap[Bs]?
  bytes : ∀ (k : Nat) (cs : Array Value) (f : Nat × Nat), W.heap[k]? = some (Obj.cells cs 5 f) → W'.heap[k]? = some (Obj.cells cs 5 f)
theorem KR.refl (n₀ Bs : Nat) (W : World) : KR n₀ Bs W W := ⟨Below.refl _ _, rfl, fun _ _ _ h => h⟩
theorem KR.trans {n₀ Bs : Nat} {A B C : World} (h : KR n₀ Bs A B) (k : KR n₀ Bs B C) : KR n₀ Bs A C := ⟨h.below.trans k.below, k.box.trans h.box, fun i cs f e => k.bytes i cs f (h.bytes i cs f e)⟩
theorem KR.of_below {n₀ Bs : Nat} {A B : World} (h : Below A.heap.size A B) (hn : n₀ ≤ A.heap.size) (hb : Bs < A.heap.size) : KR n₀ Bs A B :=
  ⟨h.mono hn, h.block _ hb, fun k _ _ e => (h.block k (Array.getElem?_eq_some_iff.1 e).1).trans e⟩
theorem KR.put {n₀ Bs : Nat} {w : World} (hn : n₀ ≤ w.heap.size) (hb : Bs < w.heap.size) (W : World) (l : Nat) (o o' : Obj) (hl : w.heap.size ≤ l) (h : W.heap[l]? = some o) (h1 : o.isCells = false) (h2 : o.isWalk = false) : KR n₀ Bs W (W.putObj l o') :=
  ⟨belowK_b hn W l o o' hl h h1 h2, World.putObj_heap_other (by omega), fun k cs f e => by
    have : k ≠ l := by rintro rfl; rw [e] at h; cases h; cases h1
    exact (World.putObj_heap_other this).trans e⟩
theorem RecIn.kr {n₀ m₀ Bs : Nat} {A B : World} {t : Rec} (h : RecIn m₀ A t) (k : KR n₀ Bs A B) : RecIn m₀ B t := by
  obtain ⟨h1, h2⟩ := h
  refine ⟨h1, ?_⟩
  rcases h2 with h2 | ⟨g, cap, cur, e, hb, hg, rest⟩
  · exact .inl h2
  · exact .inr ⟨g, cap, cur, e, hb, k.bytes _ _ _ hg, rest⟩

set_option maxRecDepth 100000 in
set_option maxHeartbeats 2000000 in
theorem records1_in (l Bs n₀ b off c : Nat) (xs : List Int) (hx : Byt xs) (hcap : xs.length ≤ c) (hs : xs.length ≤ 1099511627776) (hb : b < n₀) (J Jx : List Rec → World → Prop)
    (hJ : ∀ s A B, J s A → Below A.heap.size A B → J s B)
    (hY : ∀ pre x W, J pre W → RecIn n₀ W x ∧ pre.length < xs.length → YieldAt Fence.wide (8 - 1) Try.prog l (recEnc x) W fun e W' =>
      (e = .returned (.bool true) ∧ J (pre ++ [x]) W' ∧ KR n₀ Bs W W') ∨ (e = .returned (.bool false) ∧ Jx (pre ++ [x]) W' ∧ KR n₀ Bs W W'))
    (W : World) (hn₀ : n₀ ≤ W.heap.size) (hBl : Bs < W.heap.size) (hBs : W.cell? ⟨Bs, 0, none⟩ = some (.slice (some ⟨b, off, none⟩) xs.length c)) (hc : Rd .u8 W (some ⟨b, off, none⟩) xs) (h0 : J [] W) :
    CallsIn Fence.wide 8 Try.prog 113 #[.func (.yield l) #[] #[], .pointer (some ⟨Bs, 0, none⟩)] W fun e W' => (∃ v, e = .returned v) ∧
      ((∃ ys, ((ys.map fun t : Rec => t.2) = scanB xs ∧ ∀ t ∈ ys, RecIn n₀ W' t) ∧ J ys W') ∨ (∃ pre, True ∧ Jx pre W')) := by
  refine callsIn_of_wp Try.func113 rfl trivial ?_ rfl
  simp only [Try.ntmps113, List.size_toArray, List.length_cons, List.length_nil, Nat.reduceAdd, Nat.reduceSub, Array.replicate_succ, Array.replicate_zero, List.push_toArray, List.append_toArray, List.nil_append, List.cons_append]
  have HJ := Lib.hid hJ
  have HY := Lib.hid hY
  have Hc := Lib.hid hc
  clear hJ hY hc
  gi_wp2
  gi_loopw [3, 4] (fun a i wr => ∃ (pre : List Rec) (at_ : Nat), a = .int .i64 at_ ∧ i = .int .i64 (pre.length : Int) ∧ pre.length ≤ at_ ∧ at_ ≤ xs.length ∧
      (pre.map fun t => t.2) ++ scanP xs.length pre.length at_ (xs.drop at_) = scanB xs ∧ (∀ t ∈ pre, RecIn n₀ wr t) ∧ J pre wr ∧ KR n₀ Bs W wr)
    (fun a _ _ => xs.length + 1 - (intOf a).toNat)
  case atStart => exact ⟨[], 0, rfl, rfl, by simp, by omega, by simp [scanB], by simp, h0, KR.refl _ _ _⟩
  case round =>
    obtain ⟨pre, at_, rfl, rfl, hpa, hal, hsc, hin, hJs, hkr⟩ := hrel
    have hbx := (World.cell?_of_block (w := W) hkr.box).trans hBs
    have Hsc := Lib.hid hsc
    have Hin := Lib.hid hin
    have HJs := Lib.hid hJs
    have Hkr := Lib.hid hkr
    clear hsc hin hJs hkr
    by_cases hlt : at_ < xs.length
    · obtain ⟨rest, hrest⟩ : ∃ r, r = xs.drop at_ := ⟨_, rfl⟩
      have lR : rest.length = xs.length - at_ := by rw [hrest]; simp
      have hrb : Byt rest := by rw [hrest]; exact hx.drop _
      have hrd : Rd .u8 wr (some ⟨b, off + at_, none⟩) rest := by rw [hrest]; exact (Hc.out.below_lt Hkr.out.below hb).drop at_
      have Hrest := Lib.hid hrest
      have Hrd := Lib.hid hrd
      have hsz := Hkr.out.below.size
      have hxl := recordB_len rest
      have hxb := recordB_byt hrb
      have hT := record_any (some ⟨b, off + at_, none⟩) (c - at_) rest hrb (by omega) (by omega) wr hrd
      rw [lR] at hT
      have HT := Lib.hid hT
      clear hrest hrd hT
      obtain ⟨x, hxx⟩ : ∃ x, x = recordB rest := ⟨_, rfl⟩
      rw [← hxx] at HT hxl hxb
      have Hxx := Lib.hid hxx
      clear hxx
      gi_wp2_with (fail)
      refine ⟨trivial, (callsIn_wide.2 HT.out).mono ?_⟩
      rintro e w1 ⟨⟨v, rfl, ho1⟩, hb1⟩
      obtain ⟨A1, c1, rfl⟩ := own_slice' ho1
      have Ho1 := Lib.hid ho1
      have hs1 := hb1.size
      clear ho1
      gi_wp2_with (fail)
      refine ⟨trivial, (callsIn_wide.2 (Frame_any (pre.length : Int) (by omega) (by omega) A1 c1 x hxb (by omega) w1 (Rd.of_own Ho1.out))).mono ?_⟩
      rintro e w2 ⟨⟨v2, rfl, ho2⟩, hb2⟩
      obtain ⟨A2, c2, rfl⟩ := own_slice' ho2
      have Ho2 := Lib.hid ho2
      have hs2 := hb2.size
      clear ho2
      have hbx2 := ((hb1.mono (B' := wr.heap.size) (Nat.le_refl _)).trans (hb2.mono (by omega))).cell (p := ⟨Bs, 0, none⟩) (by show Bs < _; omega)
      rw [hbx] at hbx2
      have hfl := frameB_length (pre.length : Int) x (by omega) (by omega) (by omega)
      have hfp := frameB_pos (pre.length : Int) x
      have hfb := frameB_byt (n := (pre.length : Int)) hxb
      have hB2 : Below wr.heap.size wr w2 := hb1.trans (hb2.mono (by omega))
      have hP := HasPrefix_any (some ⟨b, off + at_, none⟩) A2 (c - at_) c2 rest (frameB (pre.length : Int) x) (by omega) hrb hfb w2 (Hrd.out.below hB2 (Nat.le_refl _)) (Rd.of_own Ho2.out)
      rw [lR] at hP
      have hin2 : ∀ t ∈ pre, RecIn n₀ w2 t := fun t ht => (Hin.out t ht).kr (KR.of_below (n₀ := n₀) (Bs := Bs) hB2 (by omega) (by omega))
      have Hin2 := Lib.hid hin2
      have HJ2 := Lib.hid (HJ.out _ _ _ HJs.out hB2)
      have Hkr2 := Lib.hid (Hkr.out.trans (KR.of_below (n₀ := n₀) (Bs := Bs) hB2 (by omega) (by omega)))
      have Hrin : Hid (RecIn n₀ w2 (.slice A1 x.length c1, x, at_ + (frameB (pre.length : Int) x).length)) := Lib.hid ((own_to (base' := n₀) Ho1.out (by omega)).kept ⟨hb2.os, hb2.tape, hb2.output, hb2.size, fun k hk _ => hb2.block k hk⟩ (row := none) (by cases hq : (Value.slice A1 x.length c1).ownBlock <;> simp))
      clear hin2
      by_cases hit : rest.take (frameB (pre.length : Int) x).length = frameB (pre.length : Int) x
      · rw [decide_eq_true hit] at hP
        have Hit := Lib.hid hit
        have HP := Lib.hid hP
        clear hP hit
        obtain ⟨fn, tmps, assign, body, hy, hR⟩ := HY.out pre (.slice A1 x.length c1, x, at_ + (frameB (pre.length : Int) x).length) w2 HJ2.out ⟨Hrin.out, by omega⟩
        simp only [recEnc, Int.natCast_add] at hy
        have hle : at_ + (frameB (pre.length : Int) x).length ≤ xs.length := by
          have := congrArg List.length Hit.out
          simp only [List.length_take] at this
          omega
        gi_wp2_with (fail)
        refine ⟨trivial, (callsIn_wide.2 HP.out).mono ?_⟩
        rintro e w3 ⟨rfl, rfl⟩
        gi_wp2
        refine hR.mono ?_
        rintro e W3 (⟨rfl, hJ3, hk3⟩ | ⟨rfl, hJx3, hk3⟩)
        · have HJ3 := Lib.hid hJ3
          have Hk3 := Lib.hid hk3
          clear hJ3 hk3 hy hR
          gi_wp2
          go_roundw
          case rel =>
            refine ⟨pre ++ [(.slice A1 x.length c1, x, at_ + (frameB (pre.length : Int) x).length)], at_ + (frameB (pre.length : Int) x).length, by go_num, by simp, by simp; omega, hle, ?_, ?_, HJ3.out, Hkr2.out.trans Hk3.out⟩
            · have hstep := scanP_hit (f := xs.length) (i := pre.length) (a := at_) (b := rest) (by rw [lR]; omega) (by intro e; rw [e] at lR; simp at lR; omega) (by rw [← Hxx.out]; exact Hit.out)
              rw [← Hxx.out] at hstep
              rw [← Hsc.out, ← Hrest.out, hstep, Hrest.out]
              simp [List.drop_drop]
            · intro t ht
              rcases List.mem_append.1 ht with ht | ht
              · exact (Hin2.out t ht).kr Hk3.out
              · rw [List.mem_singleton.1 ht]; exact Hrin.out.kr Hk3.out
          case measure => simp [intOf]; omega
        · have HJx3 := Lib.hid hJx3
          clear hJx3 hk3 hy hR
          gi_wp2
          refine bodyPost_ret (results_none rfl _ _ _) rfl ?_
          exact ⟨⟨_, rfl⟩, .inr ⟨_, trivial, HJx3.out⟩⟩
      · rw [decide_eq_false hit] at hP
        have Hit := Lib.hid hit
        have HP := Lib.hid hP
        clear hP hit
        gi_wp2_with (fail)
        refine ⟨trivial, (callsIn_wide.2 HP.out).mono ?_⟩
        rintro e w3 ⟨rfl, rfl⟩
        gi_wp2
        refine bodyPost_ret (results_none rfl _ _ _) rfl ?_
        exact ⟨⟨_, rfl⟩, .inl ⟨pre, ⟨by rw [← Hsc.out, ← Hrest.out, scanP_miss (by rw [← Hxx.out]; exact Hit.out)]; simp, Hin2.out⟩, HJ2.out⟩⟩
    · have he : at_ = xs.length := by omega
      subst he
      gi_wp2
      go_end0
      exact ⟨⟨_, rfl⟩, .inl ⟨pre, ⟨by rw [← Hsc.out]; simp [scanP_nil], Hin.out⟩, HJs.out⟩⟩
end Go.Proofs.Ytajdkcpcgfipbaa
