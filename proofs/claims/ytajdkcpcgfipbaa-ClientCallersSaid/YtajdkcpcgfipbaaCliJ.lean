/- worldmintlaw37.lives returns true. -/
import Derived.Test.YtajdkcpcgfipbaaCliI
import Derived.Lib.SlBytesConst
import Derived.Lib.SmallJoins
namespace Go.Proofs.Ytajdkcpcgfipbaa
open Go.RowKit Go.Wm

/-- Accept of a request in a variable, for a server and one client's side -/
theorem SC.accept {w W : World} {gs gc n : Nat} {σ : Srv} {q : Option Nat} {st : Cal} (h : SC w W gs σ gc q st n) {rb : Nat} {r : Rq} (hr : RB W rb r) (hc : I64 r.c) (hn : I64 r.n) (hb : Byt r.b) (hl : r.b.length ≤ 140737488351232) :
    ∃ A c, (W.cell? ⟨rb, 0, none⟩ = some (.int .i64 r.c) ∧ W.cell? ⟨rb, 1, none⟩ = some (.int .i64 r.n) ∧ W.cell? ⟨rb, 2, none⟩ = some (.slice A r.b.length c) ∧ W.cell? ⟨rb, 3, none⟩ = some (.int .u64 r.t)) ∧
    Calls Try.prog 27 #[.pointer (some ⟨gs, 0, none⟩), .agg #[.int .i64 r.c, .int .i64 r.n, .slice A r.b.length c, .int .u64 r.t]] W fun e w' =>
      (∃ A' c', e = .returned (.tuple #[.bool (accR σ r).1, .slice A' (accR σ r).2.1.length c', .int .i64 (accR σ r).2.2]) ∧ ByS w' (.slice A' (accR σ r).2.1.length c') (accR σ r).2.1) ∧ SC w w' gs (accS σ r) gc q st n ∧ ∃ F, Ssn w.heap.size W gs σ F n ∧ Kp F W w' := by
  obtain ⟨F, h1, h2, h3, h4, h5⟩ := h
  obtain ⟨A, c, e1, e2⟩ := id hr
  refine ⟨A, c, by simp [World.cell?, e1], (Accept_any w.heap.size gs n σ F r A c hc hn hb hl W h1 e2.toRd).mono ?_⟩
  rintro e w' ⟨⟨v, he, hv⟩, hto⟩
  obtain ⟨A', c', rfl, _⟩ := hv.rd
  have hto' := hto
  obtain ⟨F', _, k, _⟩ := hto'
  exact ⟨⟨A', c', he, hv⟩, SC.ses h1 h2 h3 h4 h5 hto, F, h1, k⟩
theorem SC.answer {w W : World} {gs gc n : Nat} {σ : Srv} {q : Option Nat} {st : Cal} (h : SC w W gs σ gc q st n) (c x : Int) (b : List Int) (A : Option Addr) (cb : Nat) (hc : I64 c) (hb : Byt b) (hl : b.length ≤ 140737488351232) (hr : Rd .u8 W A b) :
    Calls Try.prog 33 #[.pointer (some ⟨gs, 0, none⟩), .int .i64 c, .int .i64 x, .slice A b.length cb] W fun e w' => e = .returned (.int .i64 (ansE σ c x b)) ∧ SC w w' gs (ansS σ c x b) gc q st n ∧ ∃ F, Ssn w.heap.size W gs σ F n ∧ Kp F W w' := by
  obtain ⟨F, h1, h2, h3, h4, h5⟩ := h
  refine (Answer_any w.heap.size gs n σ F c x b A cb hc hb hl W h1 hr).mono ?_
  rintro e w' ⟨he, hto⟩
  have hto' := hto
  obtain ⟨F', _, k, _⟩ := hto'
  exact ⟨he, SC.ses h1 h2 h3 h4 h5 hto, F, h1, k⟩
theorem SC.join {w W : World} {gs gc n : Nat} {σ : Srv} {q : Option Nat} {st : Cal} (h : SC w W gs σ gc q st n) (c key : Int) (hc : I64 c) (hky : 0 ≤ key ∧ key < 18446744073709551616) (hn : n < 1000000) :
    Calls Try.prog 18 #[.pointer (some ⟨gs, 0, none⟩), .int .i64 c, .int .u64 key] W fun e w' => e = .returned (.int .i64 (joinE σ c)) ∧ SC w w' gs (joinS σ c key) gc q st (n + 1) := by
  obtain ⟨F, h1, h2, h3, h4, h5⟩ := h
  refine (Join_any w.heap.size gs n σ F c key hc hky hn W h1).mono ?_
  rintro e w' ⟨he, hto⟩
  exact ⟨he, SC.ses h1 h2 h3 h4 h5 hto⟩
theorem SC.last {w W : World} {gs gc n : Nat} {σ : Srv} {q : Option Nat} {st : Cal} (h : SC w W gs σ gc q st n) (c : Int) (hc : I64 c) :
    Calls Try.prog 29 #[.pointer (some ⟨gs, 0, none⟩), .int .i64 c] W fun e w' => e = .returned (.int .i64 (lastI σ c)) ∧ W = w' := by
  obtain ⟨F, h1, _⟩ := h
  exact Last_any w.heap.size gs n σ F c hc W h1
/-- a server and a client's side, just made -/
theorem SC.new (w : World) (c key : Int) : SC w (((w.alloc (.map #[] 0)).alloc (.cells #[.map (some w.heap.size)] 112)).alloc (.cells #[.int .i64 c, .int .u64 key, .int .i64 0, .slice none 0 0] 114)) (w.heap.size + 1) (fun _ => none) (w.heap.size + 2) none ⟨c, key, 0, []⟩ 0 := by
  have e := CalAt.new ((w.alloc (.map #[] 0)).alloc (.cells #[.map (some w.heap.size)] 112)) c key
  have es : ((w.alloc (.map #[] 0)).alloc (.cells #[.map (some w.heap.size)] 112)).heap.size = w.heap.size + 2 := by simp
  rw [es] at e
  exact ⟨_, (Ssn.new w).below ((Below.refl _ _).alloc (Nat.le_refl _) _), e, by omega, (fun k e => by cases e), (((Below.refl _ w).alloc (Nat.le_refl _) _).alloc (by simp) _).alloc (by simp; omega) _⟩
/-- Send, for a server and one client's side -/
theorem SC.send {w W : World} {gs gc n : Nat} {σ : Srv} {q : Option Nat} {st : Cal} (h : SC w W gs σ gc q st n) (b : List Int) (A : Option Addr) (cb : Nat) (hb : Byt b) (hl : b.length ≤ 65536) (hs : st.l.length ≤ 15) (hm : 0 ≤ st.many ∧ st.many ≤ 1000000) (hr : ByR W A b) :
    Calls Try.prog 19 #[.pointer (some ⟨gc, 0, none⟩), .slice A b.length cb] W fun e w' =>
      (∃ A' c', e = .returned (.tuple #[.agg #[.int .i64 st.c, .int .i64 (st.many + 1), .slice A' b.length c', .int .u64 (tagI st.key st.c (st.many + 1) b)], .int .i64 0]) ∧ ByS w' (.slice A' b.length c') b) ∧
      (∃ q', SC w w' gs σ gc q' (sendS st b) n ∧ (q' = q ∨ ∃ k, q' = some k ∧ W.heap.size ≤ k)) ∧ CalAt W gc q st ∧ Kp (fun k => k = gc ∨ q = some k) W w' ∧ W.heap.size ≤ w'.heap.size := by
  have h2 := h
  obtain ⟨F, _, hcal, _⟩ := h2
  refine (Send_any gc q st b A cb hb (by omega) (by omega) hm (by simp [sendFull]; omega) W hcal hr).mono ?_
  rintro e w' ⟨⟨v, he, hv⟩, hto⟩
  obtain ⟨A', c', rfl, _⟩ := hv.rd
  obtain ⟨q', x1, x2, x3⟩ := h.cal hto
  exact ⟨⟨A', c', he, hv⟩, ⟨q', x1, x3⟩, hcal, x2, x2.size⟩

/-- .. AND REQUESTS IN VARIABLES -/
def SCB (w W : World) (gs : Nat) (σ : Srv) (gc : Nat) (st : Cal) (n : Nat) (L : List (Nat × Rq)) : Prop := ∃ q, SC w W gs σ gc q st n ∧ ∀ x ∈ L, RB W x.1 x.2 ∧ q ≠ some x.1
theorem SCB.below {w W W' : World} {gs gc n : Nat} {σ : Srv} {st : Cal} {L : List (Nat × Rq)} (h : SCB w W gs σ gc st n L) (k : Below W.heap.size W W') : SCB w W' gs σ gc st n L := by
  obtain ⟨q, h1, h2⟩ := h
  exact ⟨q, h1.below k, fun x hx => ⟨(h2 x hx).1.below k, (h2 x hx).2⟩⟩
theorem SCB.bel {w W : World} {gs gc n : Nat} {σ : Srv} {st : Cal} {L : List (Nat × Rq)} (h : SCB w W gs σ gc st n L) : Below w.heap.size w W := by
  obtain ⟨q, ⟨F, _, _, _, _, h⟩, _⟩ := h; exact h
theorem SCB.new (w : World) (c key : Int) : SCB w (((w.alloc (.map #[] 0)).alloc (.cells #[.map (some w.heap.size)] 112)).alloc (.cells #[.int .i64 c, .int .u64 key, .int .i64 0, .slice none 0 0] 114)) (w.heap.size + 1) (fun _ => none) (w.heap.size + 2) ⟨c, key, 0, []⟩ 0 [] :=
  ⟨_, SC.new w c key, fun x hx => by cases hx⟩
theorem SCB.ses {w W W' : World} {gs gc n n' : Nat} {σ σ' : Srv} {F : Nat → Prop} {q : Option Nat} {st : Cal} {L : List (Nat × Rq)} (h : SC w W' gs σ' gc q st n') (hL : ∀ x ∈ L, RB W x.1 x.2 ∧ q ≠ some x.1) (hs : Ssn w.heap.size W gs σ F n) (k : Kp F W W') : SCB w W' gs σ' gc st n' L :=
  ⟨q, h, fun x hx => ⟨(hL x hx).1.ses hs k, (hL x hx).2⟩⟩
theorem SCB.accept {w W : World} {gs gc n : Nat} {σ : Srv} {st : Cal} {L : List (Nat × Rq)} (h : SCB w W gs σ gc st n L) {rb : Nat} {r : Rq} (hr : (rb, r) ∈ L) (hc : I64 r.c) (hn : I64 r.n) (hb : Byt r.b) (hl : r.b.length ≤ 140737488351232) :
    ∃ A c, (W.cell? ⟨rb, 0, none⟩ = some (.int .i64 r.c) ∧ W.cell? ⟨rb, 1, none⟩ = some (.int .i64 r.n) ∧ W.cell? ⟨rb, 2, none⟩ = some (.slice A r.b.length c) ∧ W.cell? ⟨rb, 3, none⟩ = some (.int .u64 r.t)) ∧
    Calls Try.prog 27 #[.pointer (some ⟨gs, 0, none⟩), .agg #[.int .i64 r.c, .int .i64 r.n, .slice A r.b.length c, .int .u64 r.t]] W fun e w' =>
      (∃ A' c', e = .returned (.tuple #[.bool (accR σ r).1, .slice A' (accR σ r).2.1.length c', .int .i64 (accR σ r).2.2]) ∧ ByS w' (.slice A' (accR σ r).2.1.length c') (accR σ r).2.1) ∧ SCB w w' gs (accS σ r) gc st n L ∧ ∀ v b, ByS W v b → ByS w' v b := by
  obtain ⟨q, h1, h2⟩ := h
  obtain ⟨A, c, q1, q2⟩ := h1.accept (h2 _ hr).1 hc hn hb hl
  refine ⟨A, c, q1, q2.mono ?_⟩
  rintro e w' ⟨a, b, F, hs, k⟩
  exact ⟨a, SCB.ses b h2 hs k, fun v b hv => hv.kp k (fun j _ e => (hs.fp j e).2.2.nob)⟩
theorem SCB.answer {w W : World} {gs gc n : Nat} {σ : Srv} {st : Cal} {L : List (Nat × Rq)} (h : SCB w W gs σ gc st n L) (c x : Int) (b : List Int) (A : Option Addr) (cb : Nat) (hc : I64 c) (hb : Byt b) (hl : b.length ≤ 140737488351232) (hr : Rd .u8 W A b) :
    Calls Try.prog 33 #[.pointer (some ⟨gs, 0, none⟩), .int .i64 c, .int .i64 x, .slice A b.length cb] W fun e w' => e = .returned (.int .i64 (ansE σ c x b)) ∧ SCB w w' gs (ansS σ c x b) gc st n L := by
  obtain ⟨q, h1, h2⟩ := h
  refine (h1.answer c x b A cb hc hb hl hr).mono ?_
  rintro e w' ⟨a, b, F, hs, k⟩
  exact ⟨a, SCB.ses b h2 hs k⟩
theorem SCB.join {w W : World} {gs gc n : Nat} {σ : Srv} {st : Cal} (h : SCB w W gs σ gc st n []) (c key : Int) (hc : I64 c) (hky : 0 ≤ key ∧ key < 18446744073709551616) (hn : n < 1000000) :
    Calls Try.prog 18 #[.pointer (some ⟨gs, 0, none⟩), .int .i64 c, .int .u64 key] W fun e w' => e = .returned (.int .i64 (joinE σ c)) ∧ SCB w w' gs (joinS σ c key) gc st (n + 1) [] := by
  obtain ⟨q, h1, _⟩ := h
  refine (h1.join c key hc hky hn).mono ?_
  rintro e w' ⟨a, b⟩
  exact ⟨a, q, b, fun x hx => by cases hx⟩
theorem SCB.last {w W : World} {gs gc n : Nat} {σ : Srv} {st : Cal} {L : List (Nat × Rq)} (h : SCB w W gs σ gc st n L) (c : Int) (hc : I64 c) :
    Calls Try.prog 29 #[.pointer (some ⟨gs, 0, none⟩), .int .i64 c] W fun e w' => e = .returned (.int .i64 (lastI σ c)) ∧ W = w' := by
  obtain ⟨q, h1, _⟩ := h
  exact h1.last c hc
theorem SCB.again {w W : World} {gs gc n : Nat} {σ : Srv} {st : Cal} {L : List (Nat × Rq)} (h : SCB w W gs σ gc st n L) (hs : st.l.length ≤ 16) (hb : ∀ r ∈ st.l, r.b.length ≤ 65536) :
    Calls Try.prog 59 #[.pointer (some ⟨gc, 0, none⟩)] W fun e w' => (∃ G, e = .returned (.slice (some ⟨G, 0, none⟩) st.l.length st.l.length)) ∧ SCB w w' gs σ gc st n L := by
  have h' := h
  obtain ⟨q, ⟨F, _, hc, _⟩, _⟩ := h'
  refine (Again_any gc q st hs hb W hc).mono ?_
  rintro e w' ⟨⟨G, cs, he, _⟩, k⟩
  exact ⟨⟨G, he⟩, h.below k⟩
/-- a variable more -/
theorem SCB.var {w W : World} {gs gc n : Nat} {σ : Srv} {st : Cal} {L : List (Nat × Rq)} (h : SCB w W gs σ gc st n L) {r : Rq} {A : Option Addr} {c l : Nat} (hl : l = r.b.length) (hv : ByS W (.slice A r.b.length c) r.b) :
    SCB w (W.alloc (.cells #[.int .i64 r.c, .int .i64 r.n, .slice A l c, .int .u64 r.t] 32)) gs σ gc st n ((W.heap.size, r) :: L) := by
  subst hl
  obtain ⟨q, h1, h2⟩ := h
  have k : Below W.heap.size W (W.alloc (.cells #[.int .i64 r.c, .int .i64 r.n, .slice A r.b.length c, .int .u64 r.t] 32)) := (Below.refl _ W).alloc (Nat.le_refl _) _
  refine ⟨q, h1.below k, fun x hx => ?_⟩
  rcases List.mem_cons.1 hx with rfl | hx
  · refine ⟨RB.new hv, fun e => ?_⟩
    obtain ⟨F, _, hc, _⟩ := h1
    have := hc.ltq _ e
    exact Nat.lt_irrefl _ this
  · exact ⟨(h2 x hx).1.below k, (h2 x hx).2⟩
theorem SCB.send {w W : World} {gs gc n : Nat} {σ : Srv} {st : Cal} {L : List (Nat × Rq)} (h : SCB w W gs σ gc st n L) (b : List Int) (A : Option Addr) (cb : Nat) (hb : Byt b) (hl : b.length ≤ 65536) (hs : st.l.length ≤ 15) (hm : 0 ≤ st.many ∧ st.many ≤ 1000000) (hr : ByR W A b) :
    Calls Try.prog 19 #[.pointer (some ⟨gc, 0, none⟩), .slice A b.length cb] W fun e w' =>
      ∃ A' c', e = .returned (.tuple #[.agg #[.int .i64 st.c, .int .i64 (st.many + 1), .slice A' b.length c', .int .u64 (tagI st.key st.c (st.many + 1) b)], .int .i64 0]) ∧
        SCB w (w'.alloc (.cells #[.int .i64 st.c, .int .i64 (st.many + 1), .slice A' b.length c', .int .u64 (tagI st.key st.c (st.many + 1) b)] 32)) gs σ gc (sendS st b) n ((w'.heap.size, sendRq st b) :: L) := by
  obtain ⟨q, h1, h2⟩ := h
  refine (h1.send b A cb hb hl hs hm hr).mono ?_
  rintro e w' ⟨⟨A', c', he, hv⟩, ⟨q', hs', hq'⟩, hca, hk, hz⟩
  exact ⟨A', c', he, SCB.var (r := sendRq st b) ⟨q', hs', fun x hx => ⟨(h2 x hx).1.cal hca hk (h2 x hx).2, by
    rcases hq' with rfl | ⟨k, rfl, hk'⟩
    · exact (h2 x hx).2
    · intro e; cases e; have := (h2 x hx).1.lt; omega⟩⟩ rfl hv⟩

set_option maxRecDepth 100000 in
set_option maxHeartbeats 4000000 in
theorem lives37_any (w : World) :
    Calls Try.prog 28 #[] w fun e w' => e = .returned (.bool true) ∧ Below w.heap.size w w' := by
  have i7 : I64 7 := (i64_iff 7).2 (by omega)
  have i1 : I64 1 := (i64_iff _).2 (by omega)
  have i2 : I64 2 := (i64_iff _).2 (by omega)
  have i3 : I64 3 := (i64_iff _).2 (by omega)
  have kc := fun (w : World) (C : Array Value) (n c g : Nat) (hg : g = w.heap.size) => Go.Joins.run_convert_bytes_const_at (P := Try.prog) w 23 5 C n c g hg Try.underlying23 Try.underlying5
  have hB0 := liv_byt
  have HB := Lib.hid hB0
  have I1 := Lib.hid i1
  have I2 := Lib.hid i2
  have I3 := Lib.hid i3
  have I7 := Lib.hid i7
  clear hB0 i1 i2 i3 i7
  go_enter Try.func28, Try.ntmps28
  go_wp2_with (fail)
  refine (CNew_any w).mono ?_
  rintro e W1 ⟨rfl, hW1⟩
  have HW1 := Lib.hid hW1
  have hz1 : W1.heap.size = w.heap.size + 2 := by rw [hW1]; simp
  clear hW1
  go_wp2_with (fail)
  refine (CCall_any 7 5 W1).mono ?_
  rintro e W2 ⟨rfl, hW2⟩
  have hs2 : SCB w W2 (w.heap.size + 1) sv0 (w.heap.size + 2) ⟨7, 5, 0, []⟩ 0 [] := by rw [hW2, HW1.out]; exact SCB.new w 7 5
  rw [hz1]
  obtain ⟨gs, hgs⟩ : ∃ gs, gs = w.heap.size + 1 := ⟨_, rfl⟩
  obtain ⟨gc, hgc⟩ : ∃ gc, gc = w.heap.size + 2 := ⟨_, rfl⟩
  rw [← hgs, ← hgc] at hs2 ⊢
  have Hs2 := Lib.hid hs2
  clear hW2 hs2 HW1 hz1 hgs hgc
  go_wp2_with (fail)
  refine (Hs2.out.join 7 5 I7.out (by decide) (by decide)).mono ?_
  rintro e W3 ⟨rfl, hs3⟩
  rw [joinE0]
  have Hs3 := Lib.hid (show SCB w W3 gs sv1 gc ⟨7, 5, 0, []⟩ 1 [] from hs3)
  clear hs3 Hs2
  go_wp2_with (fail)
  refine ((Hs3.out.below ((Below.refl _ W3).alloc (Nat.le_refl _) (.cells #[.int .u8 111, .int .u8 110, .int .u8 101] 5 (3, 4)))).send livA (some ⟨W3.heap.size, 0, none⟩) 3 HB.out.1 (by decide) (by decide) (by decide) (ByR.lit W3 (3, 4) livA)).mono ?_
  rintro e W40 ⟨A4, c4, rfl, hs4⟩
  have hs4 : SCB w (W40.alloc (.cells #[.int .i64 7, .int .i64 1, .slice A4 livA.length c4, .int .u64 (tagI 5 7 1 livA)] 32)) gs sv1 gc ⟨7, 5, 1, [rqA]⟩ 1 ((W40.heap.size, rqA) :: []) := hs4
  have hz4 : (W40.alloc (.cells #[.int .i64 7, .int .i64 1, .slice A4 livA.length c4, .int .u64 (tagI 5 7 1 livA)] 32)).heap.size = W40.heap.size + 1 := by simp
  obtain ⟨W4, hW4⟩ : ∃ W, W = W40.alloc (.cells #[.int .i64 7, .int .i64 1, .slice A4 livA.length c4, .int .u64 (tagI 5 7 1 livA)] 32) := ⟨_, rfl⟩
  rw [← hW4] at hs4 hz4
  obtain ⟨bA, hbA⟩ : ∃ b, b = W40.heap.size := ⟨_, rfl⟩
  rw [← hbA] at hs4 hz4
  have Hs4 := Lib.hid hs4
  have HW4 := Lib.hid hW4
  have HbA := Lib.hid hbA
  have Hz4 := Lib.hid hz4
  clear hs4 hW4 hbA hz4 Hs3
  go_wp2_with (fail)
  rw [← HW4.out, ← HbA.out, ← Hz4.out]
  clear HW4 HbA Hz4
  refine ((Hs4.out.below ((Below.refl _ W4).alloc (Nat.le_refl _) (.cells #[.int .u8 116, .int .u8 119, .int .u8 111] 5 (3, 4)))).send livB (some ⟨W4.heap.size, 0, none⟩) 3 HB.out.2.1 (by decide) (by decide) (by decide) (ByR.lit W4 (3, 4) livB)).mono ?_
  rintro e W50 ⟨A5, c5, rfl, hs5⟩
  have hs5 : SCB w (W50.alloc (.cells #[.int .i64 7, .int .i64 2, .slice A5 livB.length c5, .int .u64 (tagI 5 7 2 livB)] 32)) gs sv1 gc ⟨7, 5, 2, [rqA, rqB]⟩ 1 ((W50.heap.size, rqB) :: [(bA, rqA)]) := hs5
  have hz5 : (W50.alloc (.cells #[.int .i64 7, .int .i64 2, .slice A5 livB.length c5, .int .u64 (tagI 5 7 2 livB)] 32)).heap.size = W50.heap.size + 1 := by simp
  obtain ⟨W5, hW5⟩ : ∃ W, W = W50.alloc (.cells #[.int .i64 7, .int .i64 2, .slice A5 livB.length c5, .int .u64 (tagI 5 7 2 livB)] 32) := ⟨_, rfl⟩
  rw [← hW5] at hs5 hz5
  obtain ⟨bB, hbB⟩ : ∃ b, b = W50.heap.size := ⟨_, rfl⟩
  rw [← hbB] at hs5 hz5
  have Hs5 := Lib.hid hs5
  have HW5 := Lib.hid hW5
  have HbB := Lib.hid hbB
  have Hz5 := Lib.hid hz5
  clear hs5 hW5 hbB hz5 Hs4
  go_wp2_with (fail)
  rw [← HW5.out, ← HbB.out, ← Hz5.out]
  clear HW5 HbB Hz5
  refine ((Hs5.out.below ((Below.refl _ W5).alloc (Nat.le_refl _) (.cells #[.int .u8 116, .int .u8 104, .int .u8 114, .int .u8 101, .int .u8 101] 5 (5, 6)))).send livD (some ⟨W5.heap.size, 0, none⟩) 5 HB.out.2.2.1 (by decide) (by decide) (by decide) (ByR.lit W5 (5, 6) livD)).mono ?_
  rintro e W60 ⟨A6, c6, rfl, hs6⟩
  have hs6 : SCB w (W60.alloc (.cells #[.int .i64 7, .int .i64 3, .slice A6 livD.length c6, .int .u64 (tagI 5 7 3 livD)] 32)) gs sv1 gc ⟨7, 5, 3, [rqA, rqB, rqD]⟩ 1 ((W60.heap.size, rqD) :: [(bB, rqB), (bA, rqA)]) := hs6
  have hz6 : (W60.alloc (.cells #[.int .i64 7, .int .i64 3, .slice A6 livD.length c6, .int .u64 (tagI 5 7 3 livD)] 32)).heap.size = W60.heap.size + 1 := by simp
  obtain ⟨W6, hW6⟩ : ∃ W, W = W60.alloc (.cells #[.int .i64 7, .int .i64 3, .slice A6 livD.length c6, .int .u64 (tagI 5 7 3 livD)] 32) := ⟨_, rfl⟩
  rw [← hW6] at hs6 hz6
  obtain ⟨bD, hbD⟩ : ∃ b, b = W60.heap.size := ⟨_, rfl⟩
  rw [← hbD] at hs6 hz6
  have Hs6 := Lib.hid hs6
  have HW6 := Lib.hid hW6
  have HbD := Lib.hid hbD
  have Hz6 := Lib.hid hz6
  clear hs6 hW6 hbD hz6 Hs5
  obtain ⟨A7, c7, ⟨x70, x71, x72, x73⟩, ha7⟩ := Hs6.out.accept (rb := bA) (r := rqA) (by simp) I7.out I1.out HB.out.1 (by decide)
  rw [HW6.out] at x70 x71 x72 x73
  rw [acc1] at ha7
  have Ha7 := Lib.hid ha7
  clear ha7
  simp only [rqA] at x70 x71 x72 x73
  go_wp2_with (fail)
  rw [← HW6.out, ← HbD.out]
  clear HW6 HbD Hz6 x70 x71 x72 x73
  refine Ha7.out.mono ?_
  rintro e W7 ⟨⟨A7', c7', rfl, hv7⟩, hs7, hy7⟩
  have Hs7 := Lib.hid (show SCB w W7 gs sv2 gc ⟨7, 5, 3, [rqA, rqB, rqD]⟩ 1 _ from hs7)
  clear hv7 hs7 hy7 Ha7
  obtain ⟨A8, c8, ⟨x80, x81, x82, x83⟩, ha8⟩ := Hs7.out.accept (rb := bA) (r := rqA) (by simp) I7.out I1.out HB.out.1 (by decide)
  rw [acc2] at ha8
  have Ha8 := Lib.hid ha8
  clear ha8
  simp only [rqA] at x80 x81 x82 x83
  go_wp2_with (fail)
  refine Ha8.out.mono ?_
  rintro e W8 ⟨⟨A8', c8', rfl, hv8⟩, hs8, hy8⟩
  have Hs8 := Lib.hid (show SCB w W8 gs sv3 gc ⟨7, 5, 3, [rqA, rqB, rqD]⟩ 1 _ from hs8)
  have Hv8 := Lib.hid hv8
  have Hy8 := Lib.hid hy8
  clear hv8 hs8 hy8 Ha8 x80 x81 x82 x83 Hs7
  have hlt9 := ByR.lit W8 (4, 5) livX
  have hB9 : Below W8.heap.size W8 (W8.alloc (.cells #[.int .u8 100, .int .u8 111, .int .u8 110, .int .u8 101] 5 (4, 5))) := (Below.refl _ W8).alloc (Nat.le_refl _) _
  have ha9 := (Hs8.out.below hB9).answer 7 1 livX (some ⟨W8.heap.size, 0, none⟩) 4 I7.out HB.out.2.2.2 (by decide) hlt9.1
  rw [ans3] at ha9
  have Ha9 := Lib.hid ha9
  clear ha9 hlt9 hB9
  go_wp2_with (fail)
  refine Ha9.out.mono ?_
  rintro e W9 ⟨rfl, hs9⟩
  have Hs9 := Lib.hid (show SCB w W9 gs sv4 gc ⟨7, 5, 3, [rqA, rqB, rqD]⟩ 1 _ from hs9)
  clear hs9 Ha9 Hs8
  obtain ⟨A10, c10, ⟨x100, x101, x102, x103⟩, ha10⟩ := Hs9.out.accept (rb := bA) (r := rqA) (by simp) I7.out I1.out HB.out.1 (by decide)
  rw [acc4] at ha10
  have Ha10 := Lib.hid ha10
  clear ha10
  simp only [rqA] at x100 x101 x102 x103
  go_wp2_with (fail)
  refine Ha10.out.mono ?_
  rintro e W10 ⟨⟨A10', c10', rfl, hv10⟩, hs10, hy10⟩
  have Hs10 := Lib.hid (show SCB w W10 gs sv5 gc ⟨7, 5, 3, [rqA, rqB, rqD]⟩ 1 _ from hs10)
  have Hv10 := Lib.hid hv10
  have Hy10 := Lib.hid hy10
  clear hv10 hs10 hy10 Ha10 x100 x101 x102 x103 Hs9
  obtain ⟨A11, c11, ⟨x110, x111, x112, x113⟩, ha11⟩ := Hs10.out.accept (rb := bD) (r := rqD) (by simp) I7.out I3.out HB.out.2.2.1 (by decide)
  rw [acc5] at ha11
  have Ha11 := Lib.hid ha11
  clear ha11
  simp only [rqD] at x110 x111 x112 x113
  go_wp2_with (fail)
  refine Ha11.out.mono ?_
  rintro e W11 ⟨⟨A11', c11', rfl, hv11⟩, hs11, hy11⟩
  have Hs11 := Lib.hid (show SCB w W11 gs sv6 gc ⟨7, 5, 3, [rqA, rqB, rqD]⟩ 1 _ from hs11)
  have Hv11 := Lib.hid hv11
  have Hy11 := Lib.hid hy11
  clear hv11 hs11 hy11 Ha11 x110 x111 x112 x113 Hs10
  obtain ⟨A12, c12, ⟨x120, x121, x122, x123⟩, ha12⟩ := Hs11.out.accept (rb := bB) (r := rqB) (by simp) I7.out I2.out HB.out.2.1 (by decide)
  rw [acc6] at ha12
  have Ha12 := Lib.hid ha12
  clear ha12
  simp only [rqB] at x120 x121 x122 x123
  go_wp2_with (fail)
  refine Ha12.out.mono ?_
  rintro e W12 ⟨⟨A12', c12', rfl, hv12⟩, hs12, hy12⟩
  have Hs12 := Lib.hid (show SCB w W12 gs sv7 gc ⟨7, 5, 3, [rqA, rqB, rqD]⟩ 1 _ from hs12)
  have Hv12 := Lib.hid hv12
  have Hy12 := Lib.hid hy12
  clear hv12 hs12 hy12 Ha12 x120 x121 x122 x123 Hs11
  have hv12 : ByS W12 (.slice A10' livX.length c10') livX := Hy12.out _ _ (Hy11.out _ _ Hv10.out)
  have hcv := hv12.toRd.conv (P := Try.prog) (c := c10') 23 9 5 Try.underlying23 Try.underlying5 Try.underlying9
  have hla := Hs12.out.last 7 I7.out
  rw [last7] at hla
  have Hla := Lib.hid hla
  have Hag := Lib.hid (Hs12.out.again (by decide) (by intro r hr; simp at hr; rcases hr with rfl | rfl | rfl <;> decide))
  clear hv12 hla
  rw [show strOfNums livX = ⟨#[100, 111, 110, 101]⟩ by decide] at hcv
  go_wp2_with (fail)
  refine Hla.out.mono ?_
  rintro e W13 ⟨rfl, rfl⟩
  go_wp2_with (fail)
  refine Hag.out.mono ?_
  rintro e W14 ⟨⟨G, rfl⟩, hs14⟩
  have HB14 := Lib.hid hs14.bel
  clear hs14 Hag
  go_wp2_with (fail)
  go_ret
  exact ⟨rfl, HB14.out⟩
end Go.Proofs.Ytajdkcpcgfipbaa
