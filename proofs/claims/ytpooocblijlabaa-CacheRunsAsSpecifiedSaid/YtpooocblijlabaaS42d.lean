/-
  Layer 42 (cache), in plain mathematics: the example.
  Conditions: none; definitions and laws.
-/
import Derived.Test.YtpooocblijlabaaS42c
namespace C42
def xA (u : Int) : Kept := ⟨1, 0, 1, [97, 98, 99, 100], 0, 9, u⟩
def xB : Kept := ⟨1, 1, 1, [101, 102, 103, 104], 0, 5, 0⟩
def xC (u : Int) : Kept := ⟨2, 0, 1, [105, 106, 107, 108], 2, 9, u⟩
theorem x_new : newC 10 = ⟨10, 0, []⟩ ∧ newE 10 = 0 := by decide
theorem x1 : putC ⟨10, 0, []⟩ (xA 0) = (⟨10, 0, [xA 0]⟩, [], 0) := by decide
theorem x2 : putC ⟨10, 0, [xA 0]⟩ xB = (⟨10, 0, [xA 0, xB]⟩, [], 0) := by decide
theorem x3 : tick ⟨10, 0, [xA 0, xB]⟩ 2 = (⟨10, 2, [xA 0, xB]⟩, 0) := by decide
theorem x4 : getC ⟨10, 2, [xA 0, xB]⟩ 1 0 3 = ([97, 98, 99, 100], ⟨10, 2, [xA 2, xB]⟩, 0) := by decide
theorem x5 : putC ⟨10, 2, [xA 2, xB]⟩ (xC 0) = (⟨10, 2, [xA 2, xC 2]⟩, [xB], 0) := by decide
theorem x6 : chk ⟨10, 2, [xA 2, xC 2]⟩ = 0 := by decide
theorem x7 : putC ⟨10, 2, [xA 2, xC 2]⟩ ⟨1, 0, 0, [120], 2, 9, 0⟩ = (⟨10, 2, [xA 2, xC 2]⟩, [], 15) := by decide
theorem x8 : putC ⟨10, 2, [xA 2, xC 2]⟩ ⟨1, 0, 2, [97, 98, 99, 100, 101, 102, 103, 104, 105, 106, 107], 2, 9, 0⟩ = (⟨10, 2, [xA 2, xC 2]⟩, [], 13) := by decide
theorem x9 : putC ⟨10, 2, [xA 2, xC 2]⟩ ⟨1, 0, 2, [120], 1, 1, 0⟩ = (⟨10, 2, [xA 2, xC 2]⟩, [], 18) := by decide
theorem x10 : getC ⟨10, 2, [xA 2, xC 2]⟩ 1 0 1 = ([], ⟨10, 2, [xA 2, xC 2]⟩, 15) := by decide
theorem x11 : getC ⟨10, 2, [xA 2, xC 2]⟩ 1 1 9 = ([], ⟨10, 2, [xA 2, xC 2]⟩, 8) := by decide
theorem x12 : forget ⟨10, 2, [xA 2, xC 2]⟩ 1 = (⟨10, 2, [xC 2]⟩, 1, 0) := by decide
theorem x13 : tick ⟨10, 2, [xA 2, xC 2]⟩ 10 = (⟨10, 10, []⟩, 0) := by decide
theorem x14 : tick ⟨10, 10, []⟩ 9 = (⟨10, 10, []⟩, 15) := by decide
end C42
