/- The documented example of package client, in plain lists. No program in sight. -/
import Derived.Test.YtajdkcpcgfipbaaCliP
namespace Go.Wm
def livA : List Int := [111, 110, 101]
def livB : List Int := [116, 119, 111]
def livD : List Int := [116, 104, 114, 101, 101]
def livX : List Int := [100, 111, 110, 101]
def rqA : Rq := ⟨7, 1, livA, tagI 5 7 1 livA⟩
def rqB : Rq := ⟨7, 2, livB, tagI 5 7 2 livB⟩
def rqD : Rq := ⟨7, 3, livD, tagI 5 7 3 livD⟩
def sv0 : Srv := fun _ => none
def sv1 : Srv := joinS sv0 7 5
def sv2 : Srv := accS sv1 rqA
def sv3 : Srv := accS sv2 rqA
def sv4 : Srv := ansS sv3 7 1 livX
def sv5 : Srv := accS sv4 rqA
def sv6 : Srv := accS sv5 rqD
def sv7 : Srv := accS sv6 rqB
theorem joinE0 : joinE sv0 7 = 0 := by simp [joinE, sv0]
theorem at1 : sv1 7 = some ⟨5, 0, []⟩ := by simp [sv1, joinS, joinE0, updS]
theorem acc1 : accR sv1 rqA = (true, [], 0) := by simp [accR, at1, rqA, livA, waitsS]
theorem at2 : sv2 7 = some ⟨5, 1, [⟨hashB bodyLbl livA, false, []⟩]⟩ := by
  unfold sv2 accS
  rw [acc1]
  simp [at1, updS, accNew, last16, rqA]
theorem acc2 : accR sv2 rqA = (false, [], 13) := by simp [accR, at2, rqA]; simp [livA]
theorem eq3 : sv3 = sv2 := by unfold sv3 accS; rw [acc2]; simp
theorem ans3 : ansE sv3 7 1 livX = 0 := by rw [eq3]; simp [ansE, at2, waitsS, livX]
theorem at4 : sv4 7 = some ⟨5, 1, [⟨hashB bodyLbl livA, true, livX⟩]⟩ := by
  unfold sv4 ansS
  rw [ans3, eq3]
  simp [at2, updS, ansNew]
theorem acc4 : accR sv4 rqA = (false, livX, 0) := by simp [accR, at4, rqA]; simp [livA]
theorem eq5 : sv5 = sv4 := by unfold sv5 accS; rw [acc4]; simp
theorem acc5 : accR sv5 rqD = (false, [], 3) := by rw [eq5]; simp [accR, at4, rqD]; simp [livD]
theorem eq6 : sv6 = sv5 := by unfold sv6 accS; rw [acc5]; simp
theorem acc6 : accR sv6 rqB = (true, [], 0) := by rw [eq6, eq5]; simp [accR, at4, rqB, waitsS]; simp [livB]
theorem last7 : lastI sv7 7 = 2 := by
  unfold sv7 accS
  rw [acc6, eq6, eq5]
  simp [show rqB.c = 7 from rfl, at4, lastI, updS, accNew]
theorem liv_byt : Byt livA ∧ Byt livB ∧ Byt livD ∧ Byt livX := by
  refine ⟨?_, ?_, ?_, ?_⟩ <;> (intro x hx; simp [livA, livB, livD, livX] at hx; omega)
end Go.Wm
