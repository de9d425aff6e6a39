/- Package client, in plain lists and numbers. No program in sight. -/
import Derived.Test.YtajdkcpcgfipbaaPureF
namespace Go.Wm
open Go.RowKit

def bodyLbl : List Int := [98, 111, 100, 121]
def tagLbl : List Int := [116, 97, 103]
/-- client.Tag -/
def tagI (key c n : Int) (b : List Int) : Int := sumI tagLbl [wrap64 key, c, n, wrap64 (hashB bodyLbl b)]
theorem tagI_range (key c n : Int) (b : List Int) : 0 ≤ tagI key c n b ∧ tagI key c n b < 18446744073709551616 := sumI_range _ _
/-- a request -/
structure Rq where
  c : Int
  n : Int
  b : List Int
  t : Int
/-- a request that was accepted -/
structure Old where
  h : Int
  ans : Bool
  a : List Int
/-- a client that has joined -/
structure Ses where
  key : Int
  last : Int
  l : List Old
def waitsS (s : Ses) : Bool := match s.l.getLast? with | some o => !o.ans | none => false
/-- the sessions of a server -/
abbrev Srv := Int → Option Ses
def joinE (σ : Srv) (c : Int) : Int := if c < 1 ∨ c > 1073741824 then 1 else if (σ c).isSome then 8 else 0
def updS (σ : Srv) (c : Int) (s : Ses) : Srv := fun x => if x = c then some s else σ x
def joinS (σ : Srv) (c key : Int) : Srv := if joinE σ c = 0 then updS σ c ⟨key, 0, []⟩ else σ
/-- what Accept answers: is it to be performed, the answer, the error -/
def accR (σ : Srv) (r : Rq) : Bool × List Int × Int :=
  if r.c < 1 ∨ r.c > 1073741824 ∨ r.n < 1 ∨ r.b.length > 65536 then (false, [], 1)
  else match σ r.c with
    | none => (false, [], 7)
    | some s =>
      if tagI s.key r.c r.n r.b ≠ r.t then (false, [], 20)
      else if r.n - 1 > s.last then (false, [], 3)
      else if r.n > s.last then (if waitsS s then (false, [], 13) else (true, [], 0))
      else
        let i : Int := s.l.length - 1 - (s.last - r.n)
        if i < 0 then (false, [], 14)
        else match s.l[i.toNat]? with
          | none => (false, [], 14)
          | some o => if o.h ≠ hashB bodyLbl r.b then (false, [], 8) else if o.ans = false then (false, [], 13) else (false, o.a, 0)
/-- the last 16 -/
def last16 (l : List Old) : List Old := l.drop (l.length - 16)
def accNew (s : Ses) (h : Int) : Ses := ⟨s.key, s.last + 1, last16 (s.l ++ [⟨h, false, []⟩])⟩
def accS (σ : Srv) (r : Rq) : Srv := if (accR σ r).1 then (match σ r.c with | some s => updS σ r.c (accNew s (hashB bodyLbl r.b)) | none => σ) else σ
def ansE (σ : Srv) (c n : Int) (b : List Int) : Int :=
  match σ c with
  | none => 7
  | some s => if waitsS s = false ∨ n ≠ s.last then 24 else if b.length > 65536 then 4 else 0
def ansNew (s : Ses) (b : List Int) : Ses := ⟨s.key, s.last, s.l.set (s.l.length - 1) ⟨(s.l.getLast?.getD ⟨0, false, []⟩).h, true, b⟩⟩
def ansS (σ : Srv) (c n : Int) (b : List Int) : Srv := if ansE σ c n b = 0 then (match σ c with | some s => updS σ c (ansNew s b) | none => σ) else σ
def lastI (σ : Srv) (c : Int) : Int := match σ c with | some s => s.last | none => 0
/-- what always holds of a client -/
def SesOk (s : Ses) : Prop := (0 ≤ s.key ∧ s.key < 18446744073709551616) ∧ (0 ≤ s.last ∧ s.last ≤ 9223372036854775807) ∧ s.l.length ≤ 16 ∧ (s.l.length : Int) ≤ s.last ∧ ∀ o ∈ s.l, o.a.length ≤ 65536 ∧ Byt o.a
end Go.Wm
