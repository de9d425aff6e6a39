/- A loop over a function whose values lead to memory: the iterator tells the body what lies there. No program in sight. -/
import Derived.RangeFuncNested
import Derived.RangeFuncBound
import Derived.RangeFuncCalls
import Derived.RangeFuncLeaves
import Derived.Test.YtajdkcpcgfipbaaMemB
namespace Go.Wm
open Go.RowKit

/-- THE ITERATOR's WORD. Hand: what holds of the value that is handed over, where it is handed over; Kq: what a round keeps. -/
def SeqH {α : Type} (F : Fence) (n : Nat) (P : Program) (g : Nat) (lb : Array Value) (encs : α → Array Value) (Hand : List α → α → World → Prop) (Kq : World → World → Prop) (S Sp : List α → World → Prop) (w : World) : Prop :=
  ∀ (l : Nat) (J Jx : List α → World → Prop) (W : World), Below w.heap.size w W →
    (∀ s A B, J s A → Below A.heap.size A B → J s B) → (∀ s A B, Jx s A → Below A.heap.size A B → Jx s B) →
    (∀ pre x W1, J pre W1 → Hand pre x W1 → YieldAt F (n - 1) P l (encs x) W1 fun e W' =>
      (e = .returned (.bool true) ∧ J (pre ++ [x]) W' ∧ Kq W1 W') ∨ (e = .returned (.bool false) ∧ Jx (pre ++ [x]) W' ∧ Kq W1 W')) →
    J [] W →
    CallsIn F n P g (#[.func (.yield l) #[] #[]] ++ lb) W fun e W' => (∃ v, e = .returned v) ∧ ((∃ xs, S xs W' ∧ J xs W') ∨ (∃ pre, Sp pre W' ∧ Jx pre W'))

/-- HOW A ROUND MAY BE LEFT -/
def postH {α : Type} (B : Nat) (Kq : World → World → Prop) (I : List α → World → Prop) (Ix : Code → List α → World → Prop) (xs : List α) (W : World) : Exit → Act → World → Prop
  | .normal, _, W' => KeepsFrom B W W' ∧ Kq W W' ∧ I xs W'
  | .ret, _, W' => KeepsFrom B W W' ∧ Kq W W' ∧ Ix .ret xs W'
  | .exit id, _, W' => KeepsFrom B W W' ∧ Kq W W' ∧ Ix (.exit id) xs W'
  | .goto t, _, W' => KeepsFrom B W W' ∧ Kq W W' ∧ Ix (.goto t) xs W'
  | .panic _, _, _ => False
  | .outgrown, _, _ => False

theorem OwnFrom.of_below {β : Type} {B : Nat} {I : β → World → Prop} (h : OwnFrom B I) : ∀ s A C, I s A → Below A.heap.size A C → I s C := fun s A C hs hb =>
  h s A C none hs ⟨hb.os, hb.tape, hb.output, hb.size, fun k hk _ => hb.block k hk⟩ (fun r e => by cases e)

variable {F : Fence} {n : Nat} {P : Program}

theorem rangeHand {α : Type} {g : Operand} {ps : Array Tmp} {assign body : Code} {Q : Exit → Act → World → Prop} {a : Act} {w : World}
    (hro : F.round = none) (h1 : 1 ≤ n) {gf : Nat} {lb : Array Value} (hg : a.eval g = .func (.func gf) #[] lb) (hFg : F.fn gf) (eg : ∀ args w, (callFunc gf args).run P w = .ok (.enter gf args) w)
    {encs : α → Array Value} {Hand : List α → α → World → Prop} {Kq : World → World → Prop} {S Sp : List α → World → Prop} {w0 : World} (hseq : SeqH F (n - 1) P gf lb encs Hand Kq S Sp w0)
    (hKt : ∀ {A B C : World}, Kq A B → Kq B C → Kq A C) (hKb : ∀ (W : World) (l : Nat) (o o' : Obj), w.heap.size ≤ l → W.heap[l]? = some o → o.isCells = false → o.isWalk = false → Kq W (W.putObj l o')) (hb0 : Below w0.heap.size w0 w) (hps : ∀ x, (encs x).size = ps.size)
    (hS : OwnFrom w.heap.size S) (hSp : OwnFrom w.heap.size Sp)
    (I : List α → World → Prop) (Ix : Code → List α → World → Prop) (hI : OwnFrom w.heap.size I) (hIx : ∀ c, OwnFrom w.heap.size (Ix c)) (h0 : I [] w) (Ax : List α → α → Act → World → Prop) (hAx : ∀ pre x a', OwnFrom w.heap.size (fun (_ : Unit) W => Ax pre x a' W))
    (hassign : ∀ (l : Nat) (pre : List α) (x : α) (W : World) (K : Act → World → Prop), I pre W → Hand pre x W → (∀ a' W', KeepsFrom w.heap.size W W' → Kq W W' → I pre W' → Ax pre x a' W' → K a' W') →
      assign.wpIn (F.inRound l) (n - 1 - 1) P (Exit.then K (fun _ _ _ => False)) { tmps := (ps.zip (encs x)).foldl (fun t (p, v) => t.setIfInBounds p v) a.tmps, defers := [] } W)
    (hbody : ∀ (l : Nat) (pre : List α) (x : α) (a' : Act) (W : World), w.heap.size ≤ l → (∃ r, W.heap[l]? = some (.loop r)) → I pre W → Ax pre x a' W → body.wpIn (F.inRound l) (n - 1 - 1) P (postH w.heap.size Kq I Ix (pre ++ [x]) W) a' W)
    (hdone : ∀ (D : Nat) (xs : List α) (W : World), w.heap.size ≤ D → S xs W → I xs W → W.heap[D]? = some (.deferred (some [])) → Q .normal { a with defers := { target := .collected D, args := #[] } :: a.defers } W)
    (hstop : ∀ (D : Nat) (c : Code) (pre : List α) (W : World), w.heap.size ≤ D → Sp pre W → Ix c pre W → W.heap[D]? = some (.deferred (some [])) → c.wpIn F n P Q { a with defers := { target := .collected D, args := #[] } :: a.defers } W) :
    (Code.rangeFunc g ps assign body).wpIn F n P Q a w := by
  refine wpIn_rangeFunc fun fn hfn => ?_
  rw [hro]
  -- the record at block L, the block for deferred calls at block D
  generalize hD : w.heap.size = D at *
  let rec_ : LoopState → Option Code → Obj := fun st pe => .loop { state := st, pending := pe, fn, tmps := a.tmps, params := ps, assign, body, defers := D }
  let def_ : Obj := .deferred (some [])
  have enter := run_enterLoop_outer (P := P) (w := w) fn a.tmps ps assign body
  rw [hD] at enter
  obtain ⟨V, hV⟩ : ∃ V, (w.alloc def_).alloc (rec_ .ready none) = V := ⟨_, rfl⟩
  have hVD : V.heap[D]? = some def_ := by
    rw [← hV, ← hD]; exact (Below.heap_alloc _ _ _ (by simp)).trans (World.alloc_heap_new w _)
  have hVL : V.heap[D + 1]? = some (rec_ .ready none) := by
    rw [← hV, ← hD]; have := World.alloc_heap_new (w.alloc def_) (rec_ .ready none); rwa [World.size_alloc] at this
  have hwV : Below w.heap.size w V := by rw [← hV]; exact ((Below.refl _ w).alloc (Nat.le_refl _) _).alloc (by simp) _
  have hIV : I [] V := OwnFrom.of_below hI [] w V h0 hwV
  refine ⟨D + 1, [{ target := .collected D, args := #[] }], V, { target := .fn (.func gf) lb, args := #[.func (.yield (D + 1)) #[] #[]] }, V, gf, #[.func (.yield (D + 1)) #[] #[]] ++ lb, V, ?_, ?_, ?_, ?_, fun _ => h1, ?_⟩
  · rw [← hV]; exact enter
  · simp only [resolve, hg]; simp [go_sem]
  · intro f' hf'; simp [Target.leads] at hf'; subst hf'; exact hFg
  · simp [invoke, go_sem, eg]
  have books : ∀ {A B : World} {o : Obj} {k : Nat}, A.heap[k]? = some o → Below A.heap.size A B → B.heap[k]? = some o := fun h hb => (hb.block _ (Array.getElem?_eq_some_iff.1 h).1).trans h
  refine (hseq (D + 1) (fun pre W => I pre W ∧ W.heap[D + 1]? = some (rec_ .ready none) ∧ W.heap[D]? = some def_)
    (fun pre W => ∃ c, Ix c pre W ∧ W.heap[D + 1]? = some (rec_ .done (some c)) ∧ W.heap[D]? = some def_) V (hb0.trans (hwV.mono hb0.size))
    (fun s A B hs hb => ⟨OwnFrom.of_below hI s A B hs.1 hb, books hs.2.1 hb, books hs.2.2 hb⟩)
    (fun s A B hs hb => by obtain ⟨c, q1, q2, q3⟩ := hs; exact ⟨c, OwnFrom.of_below (hIx c) s A B q1 hb, books q2 hb, books q3 hb⟩) ?round ⟨hIV, hVL, hVD⟩).mono ?after
  case round =>
    rintro pre x W ⟨hi, hl, hk⟩ hx
    have hy := run_yield (P := P) (args := encs x) hl (hps x)
    refine ⟨fn, _, assign, body, hy, roundIn_of_wpIn hfn (hassign _ pre x W _ hi hx ?_)⟩
    intro a1 X kf kq hi1 hax
    have hl1 := kf.same _ _ (by omega) hl rfl
    have hk1 := kf.same _ _ (Nat.le_refl _) hk rfl
    refine ⟨_, run_beginRound hl1 rfl, ?_⟩
    have hbusy : ∀ o : Obj, (X.putObj (D + 1) o).heap[D + 1]? = some o := fun o => World.putObj_heap_same (Array.getElem?_eq_some_iff.1 hl1).1
    have hdef : ∀ (Z : World) (o : Obj), Z.heap[D]? = some def_ → (Z.putObj (D + 1) o).heap[D]? = some def_ := fun Z o h => (World.putObj_heap_other (by omega)).trans h
    have kq2 := hKb X (D + 1) _ (rec_ .busy none) (by omega) hl1 rfl rfl
    refine wpIn_mono (hbody _ pre x a1 _ (by omega) ⟨_, hbusy _⟩ (hI.putObj _ hi1 (by omega) hl1 rfl) ((hAx pre x a1).putObj (s := ()) _ hax (by omega) hl1 rfl)) ?_
    -- the round's end, by whichever way
    have leave : ∀ (j : Option Code) (Y : World), KeepsFrom D (X.putObj (D + 1) (rec_ .busy none)) Y → Kq (X.putObj (D + 1) (rec_ .busy none)) Y →
        Y.heap[D + 1]? = some (rec_ .busy none) ∧ (Instr.endRound (D + 1) j).run P Y = .ok (.bool j.isNone) (Y.putObj (D + 1) (rec_ (if j.isNone then .ready else .done) j)) ∧
        (Y.putObj (D + 1) (rec_ (if j.isNone then .ready else .done) j)).heap[D + 1]? = some (rec_ (if j.isNone then .ready else .done) j) ∧
        (Y.putObj (D + 1) (rec_ (if j.isNone then .ready else .done) j)).heap[D]? = some def_ ∧ Kq W (Y.putObj (D + 1) (rec_ (if j.isNone then .ready else .done) j)) := fun j Y kY qY => by
      have hlY := kY.same _ _ (by omega) (hbusy (rec_ .busy none)) rfl
      have hkY := kY.same _ _ (Nat.le_refl _) (hdef X (rec_ .busy none) hk1) rfl
      exact ⟨hlY, run_endRound (P := P) j hlY, World.putObj_heap_same (Array.getElem?_eq_some_iff.1 hlY).1, hdef Y _ hkY, hKt (hKt (hKt kq kq2) qY) (hKb _ _ _ _ (by omega) hlY rfl rfl)⟩
    have jump : ∀ (c : Code) (Y : World), KeepsFrom D (X.putObj (D + 1) (rec_ .busy none)) Y ∧ Kq (X.putObj (D + 1) (rec_ .busy none)) Y ∧ Ix c (pre ++ [x]) Y →
        ∃ v Z, (Instr.endRound (D + 1) (some c)).run P Y = .ok v Z ∧ ((Ending.returned v = .returned (.bool true) ∧ (I (pre ++ [x]) Z ∧ Z.heap[D + 1]? = some (rec_ .ready none) ∧ Z.heap[D]? = some def_) ∧ Kq W Z) ∨ (Ending.returned v = .returned (.bool false) ∧ (∃ c, Ix c (pre ++ [x]) Z ∧ Z.heap[D + 1]? = some (rec_ .done (some c)) ∧ Z.heap[D]? = some def_) ∧ Kq W Z)) := fun c Y ⟨kY, qY, hc⟩ => by
      obtain ⟨r1, r2, r3, r4, r5⟩ := leave (some c) Y kY qY
      exact ⟨_, _, r2, .inr ⟨rfl, ⟨c, (hIx c).putObj _ hc (by omega) r1 rfl, r3, r4⟩, r5⟩⟩
    intro e a3 Y hp
    cases e with
    | normal =>
      obtain ⟨kY, qY, hi3⟩ := hp
      obtain ⟨r1, r2, r3, r4, r5⟩ := leave none Y kY qY
      exact ⟨_, _, r2, .inl ⟨rfl, ⟨hI.putObj _ hi3 (by omega) r1 rfl, r3, r4⟩, r5⟩⟩
    | ret => exact jump _ Y hp
    | exit id => exact jump _ Y hp
    | goto t => exact jump _ Y hp
    | panic ch => exact hp.elim
    | outgrown => exact hp.elim
  case after =>
    rintro e Y ⟨⟨v, rfl⟩, ⟨xs, hxs, hi, hl, hk⟩ | ⟨pre, hpre, c, hc, hl, hk⟩⟩
    · exact ⟨none, _, run_endLoop (P := P) hl (by simp), hdone D xs _ (Nat.le_refl _) (hS.putObj _ hxs (by omega) hl rfl) (hI.putObj _ hi (by omega) hl rfl) ((World.putObj_heap_other (by omega)).trans hk)⟩
    · exact ⟨some c, _, run_endLoop (P := P) hl (by simp), hstop D c pre _ (Nat.le_refl _) (hSp.putObj _ hpre (by omega) hl rfl) ((hIx c).putObj _ hc (by omega) hl rfl) ((World.putObj_heap_other (by omega)).trans hk)⟩
theorem KeepsFrom.of_kp {S : Nat → Prop} {B : Nat} {W W' : World} (h : Kp S W W') (hc : ∀ (k : Nat) (o : Obj), S k → W.heap[k]? = some o → o.isCells = true) : KeepsFrom B W W' :=
  ⟨h.size, fun k o _ hk ho => (h.block k (Array.getElem?_eq_some_iff.1 hk).1 (fun e => by rw [hc k o e hk] at ho; cases ho)).trans hk⟩
theorem own_cells {W : World} {base e size n k : Nat} {v : Value} {xs : List Value} {o : Obj} (h : W.ownsRow base e size v n xs) (hk : some k = v.ownBlock) (ho : W.heap[k]? = some o) : o.isCells = true := by
  rcases h.2 with ⟨rfl, _⟩ | ⟨g, cap, cur, rfl, _, hgb, _⟩
  · simp [Value.ownBlock] at hk
  · obtain rfl : k = g := by simpa [Value.ownBlock] using hk
    rw [hgb] at ho; cases ho; rfl
end Go.Wm
