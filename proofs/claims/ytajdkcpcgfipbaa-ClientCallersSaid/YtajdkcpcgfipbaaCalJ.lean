/- ClientCallers: the calls, on both sides in memory. -/
import Derived.Test.YtajdkcpcgfipbaaCalI
namespace Go.Proofs.Ytajdkcpcgfipbaa
open Go.RowKit Go.Wm

theorem CalAt.uniq {w : World} {g : Nat} {q q' : Option Nat} {s : Cal} (h : CalAt w g q s) (k : CalAt w g q' s) : q = q' := by
  obtain ⟨A, c, cs, h1, _, _, rfl⟩ := h
  obtain ⟨A', c', cs', k1, _, _, rfl⟩ := k
  rw [h1] at k1
  simp at k1
  rw [k1.1]
theorem RCalAt.uniq {w : World} {g : Nat} {q q' : Option Nat} {s : Cal} (h : RCalAt w g q s) (k : RCalAt w g q' s) : q = q' := by
  obtain ⟨A, c, cs, h1, _, _, rfl⟩ := h
  obtain ⟨A', c', cs', k1, _, _, rfl⟩ := k
  rw [h1] at k1
  simp at k1
  rw [k1.1]
theorem CalTo.bys {W W' : World} {g : Nat} {q : Option Nat} {s s' : Cal} (h : CalAt W g q s) (k : CalTo W W' g q s') {v : Value} {xs : List Int} (hv : ByS W v xs) : ByS W' v xs := by
  obtain ⟨_, _, k2, _⟩ := k
  obtain ⟨⟨C1, b1⟩, b2⟩ := h.blks
  refine hv.kp k2 ?_
  rintro j _ (e | e)
  · subst e; exact nob_cells b1 (by decide)
  · obtain ⟨C2, b2⟩ := b2 _ e; exact nob_cells b2 (by decide)
theorem RCalGo.bys {W W' : World} {g : Nat} {q : Option Nat} {s s' : Cal} (h : RCalAt W g q s) (k : RCalGo W W' g q s') {v : Value} {xs : List Int} (hv : ByS W v xs) : ByS W' v xs := by
  obtain ⟨_, _, k2, _⟩ := k
  obtain ⟨⟨C1, b1⟩, b2⟩ := h.blks
  refine hv.kp k2 ?_
  rintro j _ (e | e)
  · subst e; exact nob_cells b1 (by decide)
  · obtain ⟨C2, b2⟩ := b2 _ e; exact nob_cells b2 (by decide)
theorem Pr2.send {w0 W : World} {gc gm : Nat} {st st2 : Cal} (h : Pr2 w0 W gc gm st st2) (b : List Int) (A : Option Addr) (cb : Nat) (hb : Byt b) (hl : b.length ≤ 65538) (hs : st.l.length ≤ 16) (hm : 0 ≤ st.many ∧ st.many ≤ 1000000) (hf : sendFull st b = false) (hr : ByR W A b) :
    Calls Try.prog 19 #[.pointer (some ⟨gc, 0, none⟩), .slice A b.length cb] W fun e w' =>
      (∃ v, e = .returned (.tuple #[.agg #[.int .i64 (sendRq st b).c, .int .i64 (sendRq st b).n, v, .int .u64 (sendRq st b).t], .int .i64 0]) ∧ ByS w' v b) ∧ Pr2 w0 w' gc gm (sendS st b) st2 ∧ ∀ v xs, ByS W v xs → ByS w' v xs := by
  obtain ⟨q, _, h1, _⟩ := id h
  exact (Send_any gc q st b A cb hb (by omega) hs hm hf W h1 hr).mono fun e w' ⟨he, ht⟩ => ⟨he, h.cal fun q' hq' => (by rw [← h1.uniq hq']; exact ht), fun _ _ hv => CalTo.bys h1 ht hv⟩
theorem Pr2.rsend {w0 W : World} {gc gm : Nat} {st st2 : Cal} (h : Pr2 w0 W gc gm st st2) (b : List Int) (A : Option Addr) (cb : Nat) (hb : Byt b) (hcb : b.length ≤ cb) (hl : b.length ≤ 65538) (hs : st2.l.length ≤ 16) (hm : 0 ≤ st2.many ∧ st2.many ≤ 1000000) (hf : sendFull st2 b = false) (hr : ByR W A b) :
    Calls Try.prog 55 #[.pointer (some ⟨gm, 0, none⟩), .slice A b.length cb] W fun e w' =>
      (∃ v, e = .returned (.tuple #[.agg #[.int .i64 (sendRq st2 b).c, .int .i64 (sendRq st2 b).n, v, .int .u64 (sendRq st2 b).t], .int .i64 0]) ∧ ByS w' v b) ∧ Pr2 w0 w' gc gm st (sendS st2 b) ∧ ∀ v xs, ByS W v xs → ByS w' v xs := by
  obtain ⟨_, q, _, h1, _⟩ := id h
  exact (RSend_any gm q st2 b A cb hb hcb (by omega) hs hm hf W h1 hr).mono fun e w' ⟨he, ht⟩ => ⟨he, h.ref fun q' hq' => (by rw [← h1.uniq hq']; exact ht.go), fun _ _ hv => RCalGo.bys h1 ht.go hv⟩
theorem Pr2.got {w0 W : World} {gc gm : Nat} {st st2 : Cal} (h : Pr2 w0 W gc gm st st2) (num : Int) (n : Nat) (A : Option Addr) (cb : Nat) (hs : st.l.length ≤ 16) (hn : n ≤ 65538) :
    Calls Try.prog 56 #[.pointer (some ⟨gc, 0, none⟩), .int .i64 num, .slice A n cb] W fun e w' => e = .returned (.int .i64 (gotE st num n)) ∧ Pr2 w0 w' gc gm (gotS st num n) st2 ∧ ∀ v xs, ByS W v xs → ByS w' v xs := by
  obtain ⟨q, _, h1, _⟩ := id h
  exact (Got_any gc q st num n A cb hs (by omega) W h1).mono fun e w' ⟨he, ht⟩ => ⟨he, h.cal fun q' hq' => (by rw [← h1.uniq hq']; exact ht), fun _ _ hv => CalTo.bys h1 ht hv⟩
theorem Pr2.rgot {w0 W : World} {gc gm : Nat} {st st2 : Cal} (h : Pr2 w0 W gc gm st st2) (num : Int) (n : Nat) (A : Option Addr) (cb : Nat) (hs : st2.l.length ≤ 16) (hn : n ≤ 65538) :
    Calls Try.prog 57 #[.pointer (some ⟨gm, 0, none⟩), .int .i64 num, .slice A n cb] W fun e w' => e = .returned (.int .i64 (gotE st2 num n)) ∧ Pr2 w0 w' gc gm st (gotS st2 num n) ∧ ∀ v xs, ByS W v xs → ByS w' v xs := by
  obtain ⟨_, q, _, h1, _⟩ := id h
  exact (RGot_any gm q st2 num n A cb hs (by omega) W h1).mono fun e w' ⟨he, ht⟩ => ⟨he, h.ref fun q' hq' => (by rw [← h1.uniq hq']; exact ht), fun _ _ hv => RCalGo.bys h1 ht hv⟩
theorem Pr2.opens {w0 W : World} {gc gm : Nat} {st : Cal} (h : Pr2 w0 W gc gm st st) (hs : st.l.length ≤ 16) (hb : ∀ r ∈ st.l, r.b.length ≤ 65536) :
    Calls Try.prog 58 #[.pointer (some ⟨gc, 0, none⟩), .pointer (some ⟨gm, 0, none⟩)] W fun e w' => e = .returned (.bool true) ∧ Pr2 w0 w' gc gm st st := by
  obtain ⟨q, q2, h1, h2, _⟩ := id h
  exact (opens_any gc gm q q2 st hs hb W h1 h2).mono fun e w' ⟨he, hk⟩ => ⟨he, h.below hk⟩
end Go.Proofs.Ytajdkcpcgfipbaa
