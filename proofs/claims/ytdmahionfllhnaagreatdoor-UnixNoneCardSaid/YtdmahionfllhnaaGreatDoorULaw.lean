/-
  UnixNone: what the call is handed, and what it comes to. No condition.
-/
import Derived.Test.YtdmahionfllhnaaGreatDoorFLaid
import Derived.Test.YtdmahionfllhnaaGreatDoorUNone
set_option linter.unusedVariables false
set_option maxRecDepth 100000
namespace Go.Proofs.YtdmahionfllhnaaGreatDoor.unixNone
open Go Sim
theorem agg72 : aggT PP 72 = some true := by kernel_rfl
theorem und72 : ∃ fs, PP.underlying 72 = some (.struct fs) ∧ fs.toList.map (·.type) = [3, 3, 3, 70] := ⟨_, Tryz.underlying72, by kernel_rfl⟩
theorem und70 : ∃ fs, PP.underlying 70 = some (.struct fs) ∧ fs.toList.map (·.type) = [3, 3, 3, 9, 9] := ⟨_, Tryz.underlying70, by kernel_rfl⟩

theorem law (us : List V) (m : Mem) (ha : AllRo m) (h : Two (RdV PP m 8) [72] us) : CallP PP EE OV 14 us m fun v _ => v = .bool true := by
  cases h with | cons _ u _ _ hu t =>
  cases t
  unfold RdV at hu
  rw [agg72] at hu
  obtain ⟨l, rfl, hl⟩ := hu
  unfold Rd at hl
  obtain ⟨fs, h1, h2⟩ := und72
  rw [h1] at hl
  simp only [h2] at hl
  obtain ⟨u1, v1, rfl, r1, u2, v2, rfl, r2, u3, v3, rfl, r3, u4, v4, rfl, r4, rfl⟩ := hl
  unfold Rd at r1 r2 r3 r4
  rw [Tryz.underlying3] at r1 r2 r3
  obtain ⟨gs, g1, g2⟩ := und70
  rw [g1] at r4
  simp only [g2] at r4
  obtain ⟨w1, z1, rfl, q1, w2, z2, rfl, q2, w3, z3, rfl, q3, w4, z4, rfl, q4, w5, z5, rfl, q5, rfl⟩ := r4
  unfold Rd at q1 q2 q3 q4 q5
  rw [Tryz.underlying3] at q1 q2 q3
  rw [Tryz.underlying9] at q4 q5
  obtain ⟨x1, rfl, _⟩ := r1
  obtain ⟨x2, rfl, _⟩ := r2
  obtain ⟨x3, rfl, _⟩ := r3
  obtain ⟨x4, rfl, _⟩ := q1
  obtain ⟨x5, rfl, _⟩ := q2
  obtain ⟨x6, rfl, _⟩ := q3
  obtain ⟨s, rfl, _⟩ := q4
  obtain ⟨u, rfl, _⟩ := q5
  exact none_law _ _ _ _ _ _ _ _ _ _ fun _ => rfl
end Go.Proofs.YtdmahionfllhnaaGreatDoor.unixNone
