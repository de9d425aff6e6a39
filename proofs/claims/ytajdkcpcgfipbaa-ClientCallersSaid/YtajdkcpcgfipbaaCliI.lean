/- Package client: what calls on sessions and on a client's side leave of each other. -/
import Derived.Test.YtajdkcpcgfipbaaCliH
import Derived.Test.YtajdkcpcgfipbaaCliQ
namespace Go.Proofs.Ytajdkcpcgfipbaa
open Go.RowKit Go.Wm

/-- a block of a type -/
def TyC (w : World) (k t : Nat) : Prop := ∃ cs f, w.heap[k]? = some (.cells cs t f)
theorem SesTy.ne {w : World} {k t : Nat} (h : SesTy w k) (ht : t ≠ 112 ∧ t ≠ 118 ∧ t ≠ 126) : ¬ TyC w k t := by
  rintro ⟨cs, f, e⟩
  obtain ⟨t1, t2, t3⟩ := ht
  rcases h with ⟨es, cl, h⟩ | ⟨cs', f', h⟩ | ⟨cs', f', h⟩ | ⟨cs', f', h⟩ <;> rw [h] at e <;> cases e
  · exact t1 rfl
  · exact t2 rfl
  · exact t3 rfl
theorem CalAt.tyq {w : World} {g : Nat} {q : Option Nat} {s : Cal} (h : CalAt w g q s) : ∀ k, q = some k → TyC w k 32 := by
  obtain ⟨A, c, cs, h1, h2, h3, rfl⟩ := h
  intro k hk
  cases A with
  | none => cases hk
  | some a =>
    simp at hk; subst hk
    obtain ⟨_, _, cur, b⟩ := h2.blk a rfl
    exact ⟨_, _, b⟩
theorem CalAt.tyg {w : World} {g : Nat} {q : Option Nat} {s : Cal} (h : CalAt w g q s) : TyC w g 114 := by
  obtain ⟨A, c, cs, h1, _⟩ := h
  exact ⟨_, _, h1⟩
theorem CalAt.lt {w : World} {g : Nat} {q : Option Nat} {s : Cal} (h : CalAt w g q s) : g < w.heap.size := by
  obtain ⟨cs, f, e⟩ := h.tyg
  exact (Array.getElem?_eq_some_iff.1 e).1
theorem CalAt.ltq {w : World} {g : Nat} {q : Option Nat} {s : Cal} (h : CalAt w g q s) : ∀ k, q = some k → k < w.heap.size := by
  intro k hk
  obtain ⟨cs, f, e⟩ := h.tyq k hk
  exact (Array.getElem?_eq_some_iff.1 e).1
theorem TyC.nob {w : World} {k t : Nat} (h : TyC w k t) (ht : t ≠ 5) : NoB w k := by
  obtain ⟨cs, f, e⟩ := h
  exact nob_cells e ht
/-- a call on sessions leaves a client's side as it was -/
theorem CalAt.ses {B : Nat} {w w' : World} {g gs n : Nat} {q : Option Nat} {s : Cal} {σ : Srv} {F : Nat → Prop} (h : CalAt w g q s) (hs : Ssn B w gs σ F n) (k : Kp F w w') : CalAt w' g q s :=
  h.kp k (fun e => (hs.fp g e).2.2.ne (by decide) h.tyg) (fun j hj e => (hs.fp j e).2.2.ne (by decide) (h.tyq j hj)) (fun j _ e => (hs.fp j e).2.2.nob)
/-- a call on a client's side leaves sessions as they were -/
theorem Ssn.cal {B : Nat} {w w' : World} {g gs n : Nat} {q : Option Nat} {s : Cal} {σ : Srv} {F : Nat → Prop} (hs : Ssn B w gs σ F n) (h : CalAt w g q s) (k : Kp (fun k => k = g ∨ q = some k) w w') : Ssn B w' gs σ F n :=
  hs.kp k (fun j hj e => by
    rcases e with rfl | e
    · exact (hs.fp j hj).2.2.ne (by decide) h.tyg
    · exact (hs.fp j hj).2.2.ne (by decide) (h.tyq j e)) (fun j _ e => by
    rcases e with rfl | e
    · exact h.tyg.nob (by decide)
    · exact (h.tyq j e).nob (by decide))
/-- a request in a variable of the call's own -/
def RB (w : World) (rb : Nat) (r : Rq) : Prop := ∃ A c, w.heap[rb]? = some (.cells #[.int .i64 r.c, .int .i64 r.n, .slice A r.b.length c, .int .u64 r.t] 32 (0, 0)) ∧ ByS w (.slice A r.b.length c) r.b
theorem RB.kp {S : Nat → Prop} {w w' : World} {rb : Nat} {r : Rq} (h : RB w rb r) (k : Kp S w w') (hn : ¬ S rb) (hS : ∀ j, j < w.heap.size → S j → NoB w j) : RB w' rb r := by
  obtain ⟨A, c, h1, h2⟩ := h
  exact ⟨A, c, (k.block rb (Array.getElem?_eq_some_iff.1 h1).1 hn).trans h1, h2.kp k hS⟩
theorem RB.below {w w' : World} {rb : Nat} {r : Rq} (h : RB w rb r) (k : Below w.heap.size w w') : RB w' rb r := h.kp (Kp.of_below (S := fun _ => False) k) (fun e => e) (fun _ _ e => e.elim)
theorem RB.ses {B : Nat} {w w' : World} {rb gs n : Nat} {r : Rq} {σ : Srv} {F : Nat → Prop} (h : RB w rb r) (hs : Ssn B w gs σ F n) (k : Kp F w w') : RB w' rb r := by
  have ht : TyC w rb 32 := by obtain ⟨A, c, h1, _⟩ := h; exact ⟨_, _, h1⟩
  exact h.kp k (fun e => (hs.fp rb e).2.2.ne (by decide) ht) (fun j _ e => (hs.fp j e).2.2.nob)
theorem RB.cal {w w' : World} {rb g : Nat} {q : Option Nat} {r : Rq} {s : Cal} (h : RB w rb r) (hc : CalAt w g q s) (k : Kp (fun k => k = g ∨ q = some k) w w') (hq : q ≠ some rb) : RB w' rb r := by
  refine h.kp k ?_ (fun j _ e => by
    rcases e with rfl | e
    · exact hc.tyg.nob (by decide)
    · exact (hc.tyq j e).nob (by decide))
  rintro (rfl | e)
  · obtain ⟨cs, f, e⟩ := hc.tyg
    obtain ⟨A, c, h1, _⟩ := h
    rw [h1] at e; cases e
  · exact hq e
theorem RB.lt {w : World} {rb : Nat} {r : Rq} (h : RB w rb r) : rb < w.heap.size := by
  obtain ⟨A, c, h1, _⟩ := h
  exact (Array.getElem?_eq_some_iff.1 h1).1
theorem RB.new {w : World} {r : Rq} {A : Option Addr} {c : Nat} (h : ByS w (.slice A r.b.length c) r.b) : RB (w.alloc (.cells #[.int .i64 r.c, .int .i64 r.n, .slice A r.b.length c, .int .u64 r.t] 32)) w.heap.size r :=
  ⟨A, c, heap_alloc_new w _, h.below ((Below.refl _ w).alloc (Nat.le_refl _) _)⟩

/-- A SERVER AND ONE CLIENT's SIDE, made since w -/
def SC (w W : World) (gs : Nat) (σ : Srv) (gc : Nat) (q : Option Nat) (st : Cal) (n : Nat) : Prop :=
  ∃ F, Ssn w.heap.size W gs σ F n ∧ CalAt W gc q st ∧ w.heap.size ≤ gc ∧ (∀ k, q = some k → w.heap.size ≤ k) ∧ Below w.heap.size w W
theorem SC.below {w W W' : World} {gs gc n : Nat} {σ : Srv} {q : Option Nat} {st : Cal} (h : SC w W gs σ gc q st n) (k : Below W.heap.size W W') : SC w W' gs σ gc q st n := by
  obtain ⟨F, h1, h2, h3, h4, h5⟩ := h
  exact ⟨F, h1.below k, h2.below k, h3, h4, h5.trans (k.mono h5.size)⟩
theorem SC.ses {w W W' : World} {gs gc n n' : Nat} {σ σ' : Srv} {F : Nat → Prop} {q : Option Nat} {st : Cal} (h1 : Ssn w.heap.size W gs σ F n) (h2 : CalAt W gc q st) (h3 : w.heap.size ≤ gc) (h4 : ∀ k, q = some k → w.heap.size ≤ k) (h5 : Below w.heap.size w W) (h : SsnTo w.heap.size W W' gs σ' F n') : SC w W' gs σ' gc q st n' := by
  obtain ⟨F', a, b, c⟩ := h
  exact ⟨F', a, h2.ses h1 b, h3, h4, h5.trans (b.below h5.size (fun k hk => (h1.fp k hk).1))⟩
theorem SC.cal {w W W' : World} {gs gc n : Nat} {σ : Srv} {q : Option Nat} {st st' : Cal} (h : SC w W gs σ gc q st n) (k : CalTo W W' gc q st') : ∃ q', SC w W' gs σ gc q' st' n ∧ Kp (fun k => k = gc ∨ q = some k) W W' ∧ (q' = q ∨ ∃ k, q' = some k ∧ W.heap.size ≤ k) := by
  obtain ⟨F, h1, h2, h3, h4, h5⟩ := h
  obtain ⟨q', a, b, c⟩ := k
  refine ⟨q', ⟨F, h1.cal h2 b, a, h3, ?_, h5.trans (b.below h5.size (fun k hk => ?_))⟩, b, c⟩
  · rcases c with rfl | ⟨k, rfl, hk⟩
    · exact h4
    · intro j hj; cases hj; have := h5.size; omega
  · rcases hk with rfl | hk
    · exact h3
    · exact h4 k hk
end Go.Proofs.Ytajdkcpcgfipbaa
