/- ClientCallers: the calls, on both sides in memory, further. -/
import Derived.Test.YtajdkcpcgfipbaaCalJ
namespace Go.Proofs.Ytajdkcpcgfipbaa
open Go.RowKit Go.Wm

def KpRq (W W' : World) : Prop := ∀ (k : Nat) (C : Array Value), W.heap[k]? = some (.cells C 32 (0, 0)) → W'.heap[k]? = some (.cells C 32 (0, 0))
theorem KpRq.bel {W W' : World} (h : Below W.heap.size W W') : KpRq W W' := fun k C e => by
  exact (h.block k (Array.getElem?_eq_some_iff.1 e).1).trans e
theorem RCalGo.kprq {W W' : World} {g : Nat} {q : Option Nat} {s s' : Cal} (h : RCalAt W g q s) (k : RCalGo W W' g q s') : KpRq W W' := by
  obtain ⟨_, _, k2, _⟩ := k
  obtain ⟨⟨C1, b1⟩, b2⟩ := h.blks
  intro j C e
  rw [k2.block j (Array.getElem?_eq_some_iff.1 e).1 ?_]; exact e
  rintro (e' | e')
  · exact blk_ty e b1 (by decide) e'
  · obtain ⟨C2, b2⟩ := b2 _ e'; exact blk_ty e b2 (by decide) rfl
theorem Pr2.sendF {w0 W : World} {gc gm : Nat} {st st2 : Cal} (h : Pr2 w0 W gc gm st st2) (b : List Int) (A : Option Addr) (cb : Nat) (hl : b.length ≤ 65538) (hs : st.l.length ≤ 16) (hf : sendFull st b = true) :
    Calls Try.prog 19 #[.pointer (some ⟨gc, 0, none⟩), .slice A b.length cb] W fun e w' =>
      e = .returned (.tuple #[.agg #[.int .i64 0, .int .i64 0, .slice none 0 0, .int .u64 0], .int .i64 4]) ∧ Pr2 w0 w' gc gm st st2 ∧ ∀ v xs, ByS W v xs → ByS w' v xs := by
  obtain ⟨q, _, h1, _⟩ := id h
  exact (Send_full gc q st b A cb (by omega) hs hf W h1).mono fun e w' ⟨he, ht⟩ => ⟨he, h.below ht, fun _ _ hv => hv.below ht⟩
theorem Pr2.rsendF {w0 W : World} {gc gm : Nat} {st st2 : Cal} (h : Pr2 w0 W gc gm st st2) (b : List Int) (A : Option Addr) (cb : Nat) (hl : b.length ≤ 65538) (hs : st2.l.length ≤ 16) (hf : sendFull st2 b = true) :
    Calls Try.prog 55 #[.pointer (some ⟨gm, 0, none⟩), .slice A b.length cb] W fun e w' =>
      e = .returned (.tuple #[.agg #[.int .i64 0, .int .i64 0, .slice none 0 0, .int .u64 0], .int .i64 4]) ∧ Pr2 w0 w' gc gm st st2 ∧ KpRq W w' := by
  obtain ⟨_, q, _, h1, _⟩ := id h
  exact (RSend_full gm q st2 b A cb (by omega) hs hf W h1).mono fun e w' ⟨he, ht⟩ => ⟨he, h.below ht, KpRq.bel ht⟩
theorem Pr2.rsendK {w0 W : World} {gc gm : Nat} {st st2 : Cal} (h : Pr2 w0 W gc gm st st2) (b : List Int) (A : Option Addr) (cb : Nat) (hb : Byt b) (hcb : b.length ≤ cb) (hl : b.length ≤ 65538) (hs : st2.l.length ≤ 16) (hm : 0 ≤ st2.many ∧ st2.many ≤ 1000000) (hf : sendFull st2 b = false) (hr : ByR W A b) :
    Calls Try.prog 55 #[.pointer (some ⟨gm, 0, none⟩), .slice A b.length cb] W fun e w' =>
      (∃ v, e = .returned (.tuple #[.agg #[.int .i64 (sendRq st2 b).c, .int .i64 (sendRq st2 b).n, v, .int .u64 (sendRq st2 b).t], .int .i64 0]) ∧ ByS w' v b) ∧ Pr2 w0 w' gc gm st (sendS st2 b) ∧ (∀ v xs, ByS W v xs → ByS w' v xs) ∧ KpRq W w' := by
  obtain ⟨_, q, _, h1, _⟩ := id h
  exact (RSend_any gm q st2 b A cb hb hcb (by omega) hs hm hf W h1 hr).mono fun e w' ⟨he, ht⟩ => ⟨he, h.ref fun q' hq' => (by rw [← h1.uniq hq']; exact ht.go), fun _ _ hv => RCalGo.bys h1 ht.go hv, RCalGo.kprq h1 ht.go⟩
def sendR (st : Cal) (b : List Int) : Rq := if sendFull st b = true then ⟨0, 0, [], 0⟩ else sendRq st b
def sendE (st : Cal) (b : List Int) : Int := if sendFull st b = true then 4 else 0
def sendT (st : Cal) (b : List Int) : Cal := if sendFull st b = true then st else sendS st b
theorem CalOk.sendT {st : Cal} {N : Int} (h : CalOk st N) (b : List Int) : CalOk (sendT st b) (N + 1) := by
  unfold Go.Proofs.Ytajdkcpcgfipbaa.sendT
  split
  · exact h.up (by omega)
  · rename_i hf; exact h.send (by simpa using hf)
theorem Pr2.sendX {w0 W : World} {gc gm : Nat} {st st2 : Cal} (h : Pr2 w0 W gc gm st st2) (b : List Int) (A : Option Addr) (cb : Nat) (hb : Byt b) (hl : b.length ≤ 65538) (hs : st.l.length ≤ 16) (hm : 0 ≤ st.many ∧ st.many ≤ 1000000) (hr : ByR W A b) :
    Calls Try.prog 19 #[.pointer (some ⟨gc, 0, none⟩), .slice A b.length cb] W fun e w' =>
      (∃ A' c', e = .returned (.tuple #[.agg #[.int .i64 (sendR st b).c, .int .i64 (sendR st b).n, .slice A' (sendR st b).b.length c', .int .u64 (sendR st b).t], .int .i64 (sendE st b)]) ∧ ByS w' (.slice A' (sendR st b).b.length c') (sendR st b).b) ∧ Pr2 w0 w' gc gm (sendT st b) st2 ∧ ∀ v xs, ByS W v xs → ByS w' v xs := by
  by_cases hf : sendFull st b = true
  · refine (h.sendF b A cb hl hs hf).mono fun e w' ⟨he, hp, hk⟩ => ?_
    simp only [sendR, sendE, Go.Proofs.Ytajdkcpcgfipbaa.sendT, if_pos hf]
    exact ⟨⟨none, 0, he, ByS.nil _⟩, hp, hk⟩
  · refine (h.send b A cb hb hl hs hm (by simpa using hf) hr).mono fun e w' ⟨⟨v, he, hv⟩, hp, hk⟩ => ?_
    simp only [sendR, sendE, Go.Proofs.Ytajdkcpcgfipbaa.sendT, if_neg hf]
    obtain ⟨A', c', rfl, _⟩ := hv.rd
    exact ⟨⟨A', c', he, hv⟩, hp, hk⟩
theorem Pr2.rsendX {w0 W : World} {gc gm : Nat} {st st2 : Cal} (h : Pr2 w0 W gc gm st st2) (b : List Int) (A : Option Addr) (cb : Nat) (hb : Byt b) (hcb : b.length ≤ cb) (hl : b.length ≤ 65538) (hs : st2.l.length ≤ 16) (hm : 0 ≤ st2.many ∧ st2.many ≤ 1000000) (hr : ByR W A b) :
    Calls Try.prog 55 #[.pointer (some ⟨gm, 0, none⟩), .slice A b.length cb] W fun e w' =>
      (∃ A' c', e = .returned (.tuple #[.agg #[.int .i64 (sendR st2 b).c, .int .i64 (sendR st2 b).n, .slice A' (sendR st2 b).b.length c', .int .u64 (sendR st2 b).t], .int .i64 (sendE st2 b)]) ∧ ByS w' (.slice A' (sendR st2 b).b.length c') (sendR st2 b).b) ∧ Pr2 w0 w' gc gm st (sendT st2 b) ∧ (∀ v xs, ByS W v xs → ByS w' v xs) ∧ KpRq W w' := by
  by_cases hf : sendFull st2 b = true
  · obtain ⟨_, q, _, h1, _⟩ := id h
    refine (RSend_full gm q st2 b A cb (by omega) hs hf W h1).mono fun e w' ⟨he, ht⟩ => ?_
    simp only [sendR, sendE, Go.Proofs.Ytajdkcpcgfipbaa.sendT, if_pos hf]
    exact ⟨⟨none, 0, he, ByS.nil _⟩, h.below ht, fun _ _ hv => hv.below ht, KpRq.bel ht⟩
  · refine (h.rsendK b A cb hb hcb hl hs hm (by simpa using hf) hr).mono fun e w' ⟨⟨v, he, hv⟩, hp, hk⟩ => ?_
    simp only [sendR, sendE, Go.Proofs.Ytajdkcpcgfipbaa.sendT, if_neg hf]
    obtain ⟨A', c', rfl, _⟩ := hv.rd
    exact ⟨⟨A', c', he, hv⟩, hp, hk⟩
theorem sendR_len {st : Cal} {b : List Int} (hl : b.length ≤ 65538) : (sendR st b).b.length ≤ 65538 := by
  unfold sendR; split
  · simp
  · simpa [sendRq] using hl
theorem tdiv_rng {x : Int} (h : -9223372036854775808 ≤ x ∧ x ≤ 9223372036854775807) {d : Int} (hd : 1 ≤ d) : -9223372036854775808 ≤ x.tdiv d ∧ x.tdiv d ≤ 9223372036854775807 := by
  by_cases hx : 0 ≤ x
  · rw [Int.tdiv_eq_ediv_of_nonneg hx]
    have h1 := Int.ediv_le_self d hx
    have h2 := Int.ediv_nonneg hx (show (0 : Int) ≤ d by omega)
    omega
  · obtain ⟨y, rfl⟩ : ∃ y, x = -y := ⟨-x, by omega⟩
    rw [Int.neg_tdiv, Int.tdiv_eq_ediv_of_nonneg (by omega)]
    have h1 := Int.ediv_le_self d (show (0 : Int) ≤ y by omega)
    have h2 := Int.ediv_nonneg (show (0 : Int) ≤ y by omega) (show (0 : Int) ≤ d by omega)
    omega
/-- the reference's many, in memory -/
theorem Pr2.many {w0 W : World} {gc gm : Nat} {st st2 : Cal} (h : Pr2 w0 W gc gm st st2) : gm < W.heap.size ∧ W.cell? ⟨gm, 2, none⟩ = some (.int .i64 st2.many) := by
  obtain ⟨_, q2, _, ⟨A, c, cs, h1, _⟩, _⟩ := h
  exact ⟨(Array.getElem?_eq_some_iff.1 h1).1, by simp [World.cell?, h1]⟩
/-- two requests in variables, of the two types -/
def TwoRq (w : World) (a b : Nat) (r : Rq) : Prop := ∃ (A B : Option Addr) (c d : Nat),
  w.heap[a]? = some (.cells #[.int .i64 r.c, .int .i64 r.n, .slice A r.b.length c, .int .u64 r.t] 32 (0, 0)) ∧
  w.heap[b]? = some (.cells #[.int .i64 r.c, .int .i64 r.n, .slice B r.b.length d, .int .u64 r.t] 37 (0, 0)) ∧ Rd .u8 w A r.b ∧ Rd .u8 w B r.b
end Go.Proofs.Ytajdkcpcgfipbaa
