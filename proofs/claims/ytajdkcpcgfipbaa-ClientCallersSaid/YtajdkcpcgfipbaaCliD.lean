/- Package client: Join. -/
import Derived.Test.YtajdkcpcgfipbaaCliC
namespace Go.Proofs.Ytajdkcpcgfipbaa
open Go.RowKit Go.Wm

/-- WHAT A CALL ON SESSIONS LEAVES: the sessions in their new state; only their blocks have turned -/
def SsnTo (B : Nat) (w w' : World) (g : Nat) (σ : Srv) (F : Nat → Prop) (n : Nat) : Prop := ∃ F', Ssn B w' g σ F' n ∧ Kp F w w' ∧ ∀ k, F' k → F k ∨ w.heap.size ≤ k

set_option maxRecDepth 100000 in
set_option maxHeartbeats 2000000 in
theorem Join_any (B : Nat) (g n : Nat) (σ : Srv) (F : Nat → Prop) (c key : Int) (hc : I64 c) (hky : 0 ≤ key ∧ key < 18446744073709551616) (hn : n < 1000000) (w : World) (h : Ssn B w g σ F n) :
    Calls Try.prog 18 #[.pointer (some ⟨g, 0, none⟩), .int .i64 c, .int .u64 key] w fun e w' => e = .returned (.int .i64 (joinE σ c)) ∧ SsnTo B w w' g (joinS σ c key) F (n + 1) := by
  have Hh := Lib.hid h
  obtain ⟨h1, hg, bm, m, p, q, h2, h3, h4, h5, h6, h7⟩ := h
  have hc0 : w.cell? ⟨g, 0, none⟩ = some (.map (some bm)) := by simp [World.cell?, h2]
  have hlk := h3.lookup Try.underlying3 Try.underlying110 (zero_sesp w) hc
  rw [h5 c hc] at hlk
  have same : ∀ w', w = w' → joinE σ c ≠ 0 → SsnTo B w w' g (joinS σ c key) F (n + 1) := by
    rintro w' rfl he
    have h := Hh.out
    obtain ⟨h1, hg, bm, m, p, q, h2, h3, rest⟩ := h
    have e : joinS σ c key = σ := by simp [joinS, he]
    rw [e]
    exact ⟨F, ⟨h1, hg, bm, m, p, q, h2, h3.mono (by omega), rest⟩, Kp.refl _ _, fun k hk => .inl hk⟩
  have Hsame := Lib.hid same
  have H1 := Lib.hid h1
  have H5 := Lib.hid h5
  have H6 := Lib.hid h6
  have H7 := Lib.hid h7
  clear same h1 h5 h6 h7
  have hci := (i64_iff c).1 hc
  by_cases b1 : c < 1
  · have hd : decide (c < 1) = true := decide_eq_true b1
    have hr : joinE σ c = 1 := by simp [joinE, b1]
    have Hr := Lib.hid hr
    clear hr hlk h2 h3 h4
    go_enter Try.func18, Try.ntmps18
    go_wp2_with (fail)
    go_ret
    exact ⟨by rw [Hr.out]; rfl, Hsame.out _ rfl (by rw [Hr.out]; decide)⟩
  have hd1 : decide (c < 1) = false := decide_eq_false b1
  by_cases b2 : 1073741824 < c
  · have hd : decide (1073741824 < c) = true := decide_eq_true b2
    have hr : joinE σ c = 1 := by simp [joinE, b2]
    have Hr := Lib.hid hr
    clear hr hlk h2 h3 h4
    go_enter Try.func18, Try.ntmps18
    go_wp2_with (fail)
    go_ret
    exact ⟨by rw [Hr.out]; rfl, Hsame.out _ rfl (by rw [Hr.out]; decide)⟩
  have hd2 : decide (1073741824 < c) = false := decide_eq_false b2
  cases hs : σ c with
  | some s =>
    rw [hs] at hlk
    simp only [Option.map_some, Option.getD_some] at hlk
    have hr : joinE σ c = 8 := by simp [joinE, b1, b2, hs]
    have Hr := Lib.hid hr
    clear hr h2 h3 h4 hs
    go_enter Try.func18, Try.ntmps18
    go_wp2_with (fail)
    go_ret
    exact ⟨by rw [Hr.out]; rfl, Hsame.out _ rfl (by rw [Hr.out]; decide)⟩
  | none =>
    rw [hs] at hlk
    simp only [Option.map_none, Option.getD_none] at hlk
    have hr : joinE σ c = 0 := by simp [joinE, b1, b2, hs]
    have Hr := Lib.hid hr
    have Hs := Lib.hid hs
    have H2 := Lib.hid h2
    have h3a := h3.kp (S := fun _ => False) (Kp.of_below ((Below.refl _ w).alloc (Nat.le_refl _) (.cells #[.int .u64 key, .int .i64 0, .slice none 0 0] 118))) (fun e => e)
    have H3 := Lib.hid h3a
    have H4 := Lib.hid h4
    clear hr h2 h3 h3a h4 hs
    go_enter Try.func18, Try.ntmps18
    go_wp2_with (at_mapUpdate; refine wpList_mapUpdate_imap rfl _ _ _ _ rfl 3 115 Try.underlying3 Try.underlying110 bm n m rfl H3.out (by unfold maxLen; omega) c _ rfl rfl hc ?_; intro w1 him hg1; have Him := Lib.hid (show IMap Try.prog 3 w1 bm (n + 1) (fun z => if z = c then some (.pointer (some ⟨w.heap.size, 0, none⟩)) else m z) from him); have Hg1 := Lib.hid hg1; clear him hg1)
    go_ret
    refine ⟨by rw [Hr.out]; rfl, ?_⟩
    have hgl := (H1.out g hg).2.1
    have hbl := (H1.out bm H4.out).2.1
    have hne : bm ≠ g := by
      rintro rfl
      obtain ⟨es, cl, e⟩ := H3.out.is
      rw [((Below.refl _ w).alloc (Nat.le_refl _) _).block bm (by exact hgl), H2.out] at e
      cases e
    have hk : Kp (fun k => k = bm) w w1 := ((Kp.refl (fun k => k = bm) w).alloc (.cells #[.int .u64 key, .int .i64 0, .slice none 0 0] 118)).trans (Kp.of_grown (S := fun k => k = bm) Hg1.out (fun k e => by cases e; rfl)) (fun _ _ e => e)
    have hnb : w1.heap[w.heap.size]? = some (.cells #[.int .u64 key, .int .i64 0, .slice none 0 0] 118 (0, 0)) :=
      (Hg1.out.block w.heap.size (by simp) (by simp; omega)).trans (heap_alloc_new w _)
    refine ⟨_, by
      rw [show joinS σ c key = updS σ c ⟨key, 0, []⟩ by simp [joinS, Hr.out]]
      exact Ssn.upd (S := fun k => k = bm) (pc := w.heap.size) (qc := none) H1.out hg H2.out H4.out H6.out H7.out hk (fun k _ e => by subst e; exact H4.out) (by omega)
        (fun y s hy _ => ⟨(fun e => by
            obtain ⟨_, _, ⟨A, cc, cs, e1, _⟩, _⟩ := H6.out y s hy
            rw [e] at e1
            obtain ⟨es, cl, e2⟩ := H3.out.is
            rw [((Below.refl _ w).alloc (Nat.le_refl _) _).block bm hbl, e1] at e2
            cases e2), (fun k hq e => by
            obtain ⟨_, _, ⟨A, cc, cs, e1, e3, _, e4⟩, _⟩ := H6.out y s hy
            rw [hq] at e4
            cases A with
            | none => cases e4
            | some a =>
              simp at e4
              obtain ⟨_, _, cur, b3⟩ := e3.blk a rfl
              rw [← e4, e] at b3
              obtain ⟨es, cl, e2⟩ := H3.out.is
              rw [((Below.refl _ w).alloc (Nat.le_refl _) _).block bm hbl, b3] at e2
              cases e2)⟩)
        (fun k _ e => by subst e; exact .inl Him.out.is) Him.out
        (fun x hx => by
          by_cases e : x = c
          · simp [e]
          · simp [e, H5.out x hx])
        hc ⟨hky, by simp, by simp, by simp, by simp⟩ ⟨none, 0, [], hnb, Arr.nil _ _ _, rfl, rfl⟩ (.inr (Nat.le_refl _)) (fun k e => by cases e), hk.mono (fun k _ e => by subst e; exact H4.out), ?_⟩
    rintro k (e | rfl | e)
    · exact .inl e
    · exact .inr (Nat.le_refl _)
    · cases e
end Go.Proofs.Ytajdkcpcgfipbaa
