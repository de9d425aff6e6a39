/- Package client: waits; how one client's state is replaced; Join. -/
import Derived.Test.YtajdkcpcgfipbaaCliB
namespace Go.Proofs.Ytajdkcpcgfipbaa
open Go.RowKit Go.Wm

set_option maxRecDepth 100000 in
set_option maxHeartbeats 1000000 in
theorem waits_any (p : Nat) (q : Option Nat) (s : Ses) (hs : s.l.length ≤ 17) (w : World) (h : SesAt w p q s) :
    Calls Try.prog 78 #[.pointer (some ⟨p, 0, none⟩)] w fun e w' => e = .returned (.bool (waitsS s)) ∧ ∃ m, w' = w.drewN m := by
  obtain ⟨A, c, cs, h1, h2, h3, h4⟩ := h
  have hc2 : w.cell? ⟨p, 2, none⟩ = some (.slice A s.l.length c) := by simp [World.cell?, h1]
  by_cases hl : s.l = []
  · have hw : waitsS s = false := by simp [waitsS, hl]
    rw [hw]
    rw [hl, List.length_nil] at hc2
    clear h1 h2 h3 h4 hw hs hl
    go_enter Try.func78, Try.ntmps78
    go_wp2_with (fail)
    go_quiet (fail)
    go_wp2_with (fail)
    go_ret
    exact ⟨rfl, _, rfl⟩
  · obtain ⟨k, hk⟩ : ∃ k, s.l.length = k + 1 := ⟨s.l.length - 1, by have := List.length_pos_iff.2 hl; omega⟩
    obtain ⟨o, ho⟩ : ∃ o, s.l[k]? = some o := ⟨_, List.getElem?_eq_getElem (by omega)⟩
    have hw : waitsS s = !o.ans := by
      have : s.l.getLast? = some o := by rw [List.getLast?_eq_getElem?, hk]; exact ho
      simp [waitsS, this]
    rw [hw]
    obtain ⟨ch, g1, ⟨v, rfl, hv⟩, g3⟩ := h3.get ho
    obtain ⟨gb, off, rfl, hcell, _⟩ := h2.cell (j := k * 3 + 1) (u := .bool o.ans) (by rw [g3 1 (by omega)]; rfl)
    rw [hk] at hc2
    rw [← Nat.add_assoc] at hcell
    have hk17 : k ≤ 16 := by omega
    have hd : decide ((0 : Int) < ((k : Int) + 1)) = true := decide_eq_true (by omega)
    have hidx : IntKind.i64.wrap (k : Int) = k := IntWalk.i64_in _ (by omega)
    clear h1 h2 h3 h4 hw hs hl hk ho g1 hv g3
    go_enter Try.func78, Try.ntmps78
    go_wp2_with (fail)
    go_quiet (fail)
    go_wp2_with (fail)
    go_ret
    exact ⟨rfl, _, rfl⟩

/-- ONE CLIENT's STATE IS REPLACED. -/
theorem Ssn.upd {B : Nat} {w w' : World} {g n' bm : Nat} {σ : Srv} {F S : Nat → Prop} {m' : Int → Option Value} {p : Int → Nat} {q : Int → Option Nat} {c : Int} {s' : Ses} {pc : Nat} {qc : Option Nat}
    (h1 : ∀ k, F k → B ≤ k ∧ k < w.heap.size ∧ SesTy w k) (hg : F g) (h2 : w.heap[g]? = some (.cells #[.map (some bm)] 112 (0, 0))) (h4 : F bm)
    (h6 : ∀ x s, σ x = some s → I64 x ∧ SesOk s ∧ SesAt w (p x) (q x) s ∧ F (p x) ∧ ∀ k, q x = some k → F k)
    (h7 : ∀ x y s t, σ x = some s → σ y = some t → x ≠ y → p x ≠ p y ∧ ∀ k, q x = some k → q y ≠ some k)
    (hk : Kp S w w') (hSF : ∀ k, k < w.heap.size → S k → F k) (hSg : ¬ S g) (hSn : ∀ y s, σ y = some s → y ≠ c → ¬ S (p y) ∧ ∀ k, q y = some k → ¬ S k) (hST : ∀ k, F k → S k → SesTy w' k)
    (him : IMap Try.prog 3 w' bm n' m') (hm' : ∀ x, I64 x → m' x = if x = c then some (.pointer (some ⟨pc, 0, none⟩)) else (σ x).map fun _ => .pointer (some ⟨p x, 0, none⟩))
    (hc : I64 c) (hok : SesOk s') (hat : SesAt w' pc qc s') (hpc : (pc = p c ∧ (σ c).isSome) ∨ w.heap.size ≤ pc) (hqc : ∀ k, qc = some k → (q c = some k ∧ (σ c).isSome) ∨ w.heap.size ≤ k) :
    Ssn B w' g (updS σ c s') (fun k => F k ∨ k = pc ∨ qc = some k) n' := by
  have blk : ∀ j, F j → ¬ S j → w'.heap[j]? = w.heap[j]? := fun j hj hn => hk.block j (h1 j hj).2.1 hn
  have hS : ∀ j, j < w.heap.size → S j → NoB w j := fun j hj hs => (h1 j (hSF j hj hs)).2.2.nob
  have hBw : B ≤ w.heap.size := by have := h1 g hg; omega
  obtain ⟨A, cc, cs, e1, e2, e3, e4⟩ := id hat
  have hpcl := (Array.getElem?_eq_some_iff.1 e1).1
  have hps : ∀ y s, σ y = some s → y ≠ c → pc ≠ p y ∧ ∀ k, qc = some k → q y ≠ some k := by
    intro y s hy hne
    obtain ⟨_, _, ⟨Ay, cy, csy, d1, d2, d3, d4⟩, f1, f2⟩ := h6 y s hy
    refine ⟨?_, fun k hk e => ?_⟩
    · rcases hpc with ⟨rfl, hsome⟩ | hpc
      · obtain ⟨t, ht⟩ := Option.isSome_iff_exists.1 hsome
        exact (h7 c y t s ht hy (Ne.symm hne)).1
      · intro e; have := (h1 _ f1).2.1; omega
    · rcases hqc k hk with ⟨hq, hsome⟩ | hq
      · obtain ⟨t, ht⟩ := Option.isSome_iff_exists.1 hsome
        exact (h7 c y t s ht hy (Ne.symm hne)).2 k hq e
      · have := (h1 _ (f2 k e)).2.1; omega
  refine ⟨?_, .inl hg, bm, m', fun x => if x = c then pc else p x, fun x => if x = c then qc else q x, (blk g hg hSg).trans h2, him, .inl h4, fun x hx => ?_, fun x s hx => ?_, fun x y s t hx hy hne => ?_⟩
  · rintro k (hF | rfl | hq)
    · obtain ⟨a1, a2, a3⟩ := h1 k hF
      refine ⟨a1, Nat.lt_of_lt_of_le a2 hk.size, ?_⟩
      by_cases hs : S k
      · exact hST k hF hs
      · unfold SesTy at a3 ⊢
        rw [blk k hF hs]; exact a3
    · refine ⟨?_, hpcl, .inr (.inr (.inl ⟨_, _, e1⟩))⟩
      rcases hpc with ⟨rfl, hsome⟩ | hpc
      · obtain ⟨t, ht⟩ := Option.isSome_iff_exists.1 hsome
        exact (h1 _ (h6 c t ht).2.2.2.1).1
      · omega
    · rw [e4] at hq
      cases A with
      | none => cases hq
      | some a =>
        simp at hq; subst hq
        obtain ⟨_, b2, cur, b3⟩ := e2.blk a rfl
        refine ⟨?_, b2, .inr (.inr (.inr ⟨_, _, b3⟩))⟩
        rcases hqc a.block e4 with ⟨hq, hsome⟩ | hq
        · obtain ⟨t, ht⟩ := Option.isSome_iff_exists.1 hsome
          exact (h1 _ ((h6 c t ht).2.2.2.2 _ hq)).1
        · omega
  · rw [hm' x hx]
    by_cases e : x = c
    · subst e; simp [updS]
    · simp [updS, e]
  · by_cases e : x = c
    · subst e
      simp only [updS, if_true, Option.some.injEq] at hx
      subst hx
      simp only [if_true]
      exact ⟨hc, hok, hat, .inr (.inl (by trivial)), fun k hq => .inr (.inr hq)⟩
    · simp only [updS, if_neg e] at hx
      simp only [if_neg e]
      obtain ⟨q1, q2, q3, q4, q5⟩ := h6 x s hx
      obtain ⟨n1, n2⟩ := hSn x s hx e
      exact ⟨q1, q2, q3.kp hk n1 n2 hS, .inl q4, fun k hq => .inl (q5 k hq)⟩
  · by_cases e : x = c
    · subst e
      have hne' : ¬ y = x := fun e => hne e.symm
      simp only [updS, if_neg hne'] at hy
      simp only [if_true, if_neg hne']
      exact hps y t hy hne'
    · by_cases e' : y = c
      · subst e'
        simp only [updS, if_neg e] at hx
        simp only [if_true, if_neg e]
        have := hps x s hx e
        exact ⟨Ne.symm this.1, fun k hk hq => this.2 k hq hk⟩
      · simp only [updS, if_neg e, if_neg e'] at hx hy
        simp only [if_neg e, if_neg e']
        exact h7 x y s t hx hy hne
end Go.Proofs.Ytajdkcpcgfipbaa
