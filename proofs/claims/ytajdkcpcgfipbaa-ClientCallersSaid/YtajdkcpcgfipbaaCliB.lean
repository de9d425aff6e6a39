/- Package client: the sessions of a server in memory; Join, Last, waits. -/
import Derived.Test.YtajdkcpcgfipbaaCliA
import Derived.Deep.QuietTactic
import Derived.BigQuiet
import Derived.WalkSpells
import Derived.WalkLawsBesides
namespace Go.Proofs.Ytajdkcpcgfipbaa
open Go.RowKit Go.Wm

theorem zero_sesp (w : World) : (zeroValue 115).run Try.prog w = .ok (.pointer none) w := by kernel_rfl
/-- a value that reads as bytes, of the call's own -/
def ByS (w : World) (v : Value) (b : List Int) : Prop := ∃ base, w.ownsRow base 5 1 v b.length (b.map (.int .u8))
/-- no block of bytes -/
def NoB (w : World) (k : Nat) : Prop := ∀ cs f, w.heap[k]? ≠ some (.cells cs 5 f)
theorem ByS.kp {S : Nat → Prop} {w w' : World} {v : Value} {b : List Int} (h : ByS w v b) (k : Kp S w w') (hS : ∀ j, j < w.heap.size → S j → NoB w j) : ByS w' v b := by
  obtain ⟨base, h⟩ := h
  refine ⟨base, own_kp h k fun j hj hs => ?_⟩
  rcases h.2 with ⟨rfl, _⟩ | ⟨g, cap, cur, rfl, _, hg, _⟩
  · simp [Value.ownBlock] at hj
  · obtain rfl : g = j := by simpa [Value.ownBlock] using hj
    exact hS g (Array.getElem?_eq_some_iff.1 hg).1 hs _ _ hg
theorem ByS.nil (w : World) : ByS w (.slice none 0 0) [] := ⟨0, World.ownsRow_nil _ _ _ _⟩
theorem ByS.rd {w : World} {v : Value} {b : List Int} (h : ByS w v b) : ∃ A c, v = .slice A b.length c ∧ Rd .u8 w A b ∧ b.length ≤ c := by
  obtain ⟨base, h⟩ := h
  obtain ⟨A, c, rfl⟩ := own_slice' h
  exact ⟨A, c, rfl, Rd.of_own h, own_cap h⟩
def OldE (w : World) (o : Old) (ch : List Value) : Prop := ∃ v, ch = [.int .u64 o.h, .bool o.ans, v] ∧ ByS w v o.a
/-- THE CLIENT's BLOCK IS p, its list lies in block q -/
def SesAt (w : World) (p : Nat) (q : Option Nat) (s : Ses) : Prop :=
  ∃ A c cs, w.heap[p]? = some (.cells #[.int .u64 s.key, .int .i64 s.last, .slice A s.l.length c] 118 (0, 0)) ∧ Arr w 126 3 A s.l.length c cs ∧ Lay 3 (OldE w) s.l cs ∧ q = A.map fun a => a.block
theorem SesAt.kp {S : Nat → Prop} {w w' : World} {p : Nat} {q : Option Nat} {s : Ses} (h : SesAt w p q s) (k : Kp S w w') (hp : ¬ S p) (hq : ∀ j, q = some j → ¬ S j) (hS : ∀ j, j < w.heap.size → S j → NoB w j) : SesAt w' p q s := by
  obtain ⟨A, c, cs, h1, h2, h3, rfl⟩ := h
  refine ⟨A, c, cs, (k.block p (Array.getElem?_eq_some_iff.1 h1).1 hp).trans h1, h2.kp k (fun a ea => hq _ (by rw [ea]; rfl)), h3.mono fun x _ ch _ he => ?_, rfl⟩
  obtain ⟨v, e, hv⟩ := he
  exact ⟨v, e, hv.kp k hS⟩
/-- blocks that the sessions of a server may lie in -/
def SesTy (w : World) (k : Nat) : Prop := (∃ es clock, w.heap[k]? = some (.map es clock)) ∨ (∃ cs f, w.heap[k]? = some (.cells cs 112 f)) ∨ (∃ cs f, w.heap[k]? = some (.cells cs 118 f)) ∨ (∃ cs f, w.heap[k]? = some (.cells cs 126 f))
theorem SesTy.nob {w : World} {k : Nat} (h : SesTy w k) : NoB w k := by
  intro cs f e
  rcases h with ⟨es, cl, h⟩ | ⟨cs', f', h⟩ | ⟨cs', f', h⟩ | ⟨cs', f', h⟩ <;> rw [h] at e <;> cases e
/-- THE SESSIONS OF A SERVER AT BLOCK g; they lie in the blocks of F, from B on -/
structure Ssn (B : Nat) (w : World) (g : Nat) (σ : Srv) (F : Nat → Prop) (n : Nat) : Prop where
  fp : ∀ k, F k → B ≤ k ∧ k < w.heap.size ∧ SesTy w k
  hg : F g
  ex : ∃ (bm : Nat) (m : Int → Option Value) (p : Int → Nat) (q : Int → Option Nat),
    w.heap[g]? = some (.cells #[.map (some bm)] 112 (0, 0)) ∧ IMap Try.prog 3 w bm n m ∧ F bm ∧
    (∀ x, I64 x → m x = (σ x).map fun _ => .pointer (some ⟨p x, 0, none⟩)) ∧
    (∀ x s, σ x = some s → I64 x ∧ SesOk s ∧ SesAt w (p x) (q x) s ∧ F (p x) ∧ ∀ k, q x = some k → F k) ∧
    (∀ x y s t, σ x = some s → σ y = some t → x ≠ y → p x ≠ p y ∧ ∀ k, q x = some k → q y ≠ some k)
theorem Ssn.kp {B : Nat} {w w' : World} {g n : Nat} {σ : Srv} {F S : Nat → Prop} (h : Ssn B w g σ F n) (k : Kp S w w') (hF : ∀ j, F j → ¬ S j) (hS : ∀ j, j < w.heap.size → S j → NoB w j) : Ssn B w' g σ F n := by
  obtain ⟨h1, hg, bm, m, p, q, h2, h3, h4, h5, h6, h7⟩ := h
  have blk : ∀ j, F j → w'.heap[j]? = w.heap[j]? := fun j hj => k.block j (h1 j hj).2.1 (hF j hj)
  refine ⟨fun j hj => ⟨(h1 j hj).1, Nat.lt_of_lt_of_le (h1 j hj).2.1 k.size, ?_⟩, hg, bm, m, p, q, (blk g hg).trans h2, h3.kp k (hF _ h4), h4, h5, fun x s hx => ?_, h7⟩
  · have := (h1 j hj).2.2
    unfold SesTy at this ⊢
    rw [blk j hj]; exact this
  · obtain ⟨q1, q2, q3, q4, q5⟩ := h6 x s hx
    exact ⟨q1, q2, q3.kp k (hF _ q4) (fun j hj => hF _ (q5 j hj)) hS, q4, q5⟩
theorem Ssn.below {B : Nat} {w w' : World} {g n : Nat} {σ : Srv} {F : Nat → Prop} (h : Ssn B w g σ F n) (k : Below w.heap.size w w') : Ssn B w' g σ F n :=
  h.kp (Kp.of_below (S := fun _ => False) k) (fun _ _ e => e) (fun _ _ e => e.elim)
/-- New -/
theorem Ssn.new (w : World) : Ssn w.heap.size ((w.alloc (.map #[] 0)).alloc (.cells #[.map (some w.heap.size)] 112)) (w.heap.size + 1) (fun _ => none) (fun k => k = w.heap.size ∨ k = w.heap.size + 1) 0 := by
  have e1 : ((w.alloc (.map #[] 0)).alloc (.cells #[.map (some w.heap.size)] 112)).heap[w.heap.size + 1]? = some (.cells #[.map (some w.heap.size)] 112 (0, 0)) := by
    have := heap_alloc_new (w.alloc (.map #[] 0)) (.cells #[.map (some w.heap.size)] 112)
    rwa [World.size_alloc] at this
  have e0 : ((w.alloc (.map #[] 0)).alloc (.cells #[.map (some w.heap.size)] 112)).heap[w.heap.size]? = some (.map #[] 0) := by
    exact (((Below.refl _ (w.alloc (.map #[] 0))).alloc (Nat.le_refl _) (.cells #[.map (some w.heap.size)] 112)).block w.heap.size (by simp)).trans (World.alloc_heap_new w _)
  have hm := (IMap.made Try.prog 3 w).kp (S := fun _ => False) (Kp.of_below ((Below.refl _ (w.alloc (.map #[] 0))).alloc (Nat.le_refl _) (.cells #[.map (some w.heap.size)] 112))) (fun e => e)
  refine ⟨?_, .inr rfl, w.heap.size, fun _ => none, fun _ => 0, fun _ => none, e1, hm, .inl rfl, fun x _ => rfl, (fun x s e => by cases e), (fun x y s t e => by cases e)⟩
  rintro k (rfl | rfl)
  · exact ⟨Nat.le_refl _, by simp; omega, .inl ⟨_, _, e0⟩⟩
  · exact ⟨by omega, by simp, .inr (.inl ⟨_, _, e1⟩)⟩

set_option maxRecDepth 100000 in
set_option maxHeartbeats 1000000 in
theorem Last_any (B : Nat) (g n : Nat) (σ : Srv) (F : Nat → Prop) (c : Int) (hc : I64 c) (w : World) (h : Ssn B w g σ F n) :
    Calls Try.prog 29 #[.pointer (some ⟨g, 0, none⟩), .int .i64 c] w fun e w' => e = .returned (.int .i64 (lastI σ c)) ∧ w = w' := by
  obtain ⟨h1, hg, bm, m, p, q, h2, h3, h4, h5, h6, h7⟩ := h
  have hc0 : w.cell? ⟨g, 0, none⟩ = some (.map (some bm)) := by simp [World.cell?, h2]
  have hlk := h3.lookup Try.underlying3 Try.underlying110 (zero_sesp w) hc
  rw [h5 c hc] at hlk
  cases hs : σ c with
  | none =>
    rw [hs] at hlk
    simp only [Option.map_none, Option.getD_none] at hlk
    have hr : lastI σ c = 0 := by simp [lastI, hs]
    rw [hr]
    clear h1 hg h2 h3 h4 h5 h6 h7 hs hr
    go_enter Try.func29, Try.ntmps29
    go_wp2_with (fail)
    go_ret
    exact ⟨rfl, rfl⟩
  | some s =>
    rw [hs] at hlk
    simp only [Option.map_some, Option.getD_some] at hlk
    obtain ⟨q1, q2, ⟨A, cc, cs, q3, _⟩, _⟩ := h6 c s hs
    have hc1 : w.cell? ⟨p c, 1, none⟩ = some (.int .i64 s.last) := by simp [World.cell?, q3]
    have hr : lastI σ c = s.last := by simp [lastI, hs]
    rw [hr]
    obtain ⟨pc, hpc⟩ : ∃ pc, pc = p c := ⟨_, rfl⟩
    rw [← hpc] at hlk hc1
    clear h1 hg h2 h3 h4 h5 h6 h7 hs hr q1 q2 q3 hpc
    go_enter Try.func29, Try.ntmps29
    go_wp2_with (fail)
    go_ret
    exact ⟨rfl, rfl⟩
end Go.Proofs.Ytajdkcpcgfipbaa
