/-
  The calm of the forms: each of them comes to an end at which nothing waits.
  A calm from every form: what waits is decided, and what is kept stands in the store.
-/
import Derived.Test.YtkmocipdekogkaaGreatDoorCr1
import Derived.Test.YtkmocipdekogkaaGreatDoorCr2
import Derived.Test.YtkmocipdekogkaaGreatDoorCr3
import Derived.Test.YtkmocipdekogkaaGreatDoorCr4
import Derived.Test.YtkmocipdekogkaaGreatDoorCr5
import Derived.Test.YtkmocipdekogkaaGreatDoorCr6
import Derived.Test.YtkmocipdekogkaaGreatDoorCr7
import Derived.Test.YtkmocipdekogkaaGreatDoorCr8
import Derived.Test.YtkmocipdekogkaaGreatDoorCr9
import Derived.Test.YtkmocipdekogkaaGreatDoorCr10
import Derived.Test.YtkmocipdekogkaaGreatDoorCr11
import Derived.Test.YtkmocipdekogkaaGreatDoorCr12
import Derived.Test.YtkmocipdekogkaaGreatDoorCr13
import Derived.Test.YtkmocipdekogkaaGreatDoorCr14
import Derived.Test.YtkmocipdekogkaaGreatDoorCr15
import Derived.Test.YtkmocipdekogkaaGreatDoorCr16
import Derived.Test.YtkmocipdekogkaaGreatDoorCr17
import Derived.Test.YtkmocipdekogkaaGreatDoorCr18
import Derived.Test.YtkmocipdekogkaaGreatDoorCr19
import Derived.Test.YtkmocipdekogkaaGreatDoorCr20
set_option linter.all false
section
namespace Go.Proofs.YtkmocipdekogkaaGreatDoor
set_option linter.unusedVariables false
/-- From each of those states on, to the end. -/
def RestAll (κ : Sc) : List (List Bool) → Prop
  | [] => True
  | ks :: r => restD κ (candOf κ ks) [] = true ∧ RestAll κ r
theorem rest_nil {κ : Sc} : RestAll κ [] := trivial
theorem rest_cons {κ : Sc} {ks : List Bool} {r : List (List Bool)} (h : restD κ (candOf κ ks) [] = true) (t : RestAll κ r) : RestAll κ (ks :: r) := ⟨h, t⟩
theorem rest_mem {κ : Sc} : ∀ {l : List (List Bool)}, RestAll κ l → ∀ ks ∈ l, JD (restD κ (candOf κ ks))
  | a :: r, h, ks, hk => by
    rcases List.mem_cons.1 hk with rfl | hk
    · exact .fin h.1
    · exact rest_mem h.2 ks hk
theorem rest_ok {κ : Sc} (h : RestAll κ (keptsOf κ)) : ∀ c ∈ candsOf κ, PieceT 6 24 c.V c.W ∧ JD (restD κ c) := by
  intro c hc
  refine ⟨cands_piece κ c hc, ?_⟩
  obtain ⟨ks, hk, rfl⟩ := List.mem_map.1 hc
  exact rest_mem h ks hk
theorem jd_f0 : JD (calmR ⟨⟨0, true, (1, false), (0, false)⟩, 2, 2⟩) := .fin ru_f0_
theorem rd_f0 : RestAll ⟨⟨0, true, (1, false), (0, false)⟩, 2, 2⟩ (keptsOf ⟨⟨0, true, (1, false), (0, false)⟩, 2, 2⟩) := rest_cons re_f0_0 rest_nil
theorem jd_f10 : JD (calmR ⟨⟨1, true, (1, false), (0, false)⟩, 2, 2⟩) := .two (.fin ru_f10_0) (.fin ru_f10_1)
theorem rd_f10 : RestAll ⟨⟨1, true, (1, false), (0, false)⟩, 2, 2⟩ (keptsOf ⟨⟨1, true, (1, false), (0, false)⟩, 2, 2⟩) := rest_cons re_f10_0 (rest_cons re_f10_1 rest_nil)
theorem jd_f11 : JD (calmR ⟨⟨1, true, (2, false), (0, false)⟩, 0, 2⟩) := .two (.fin ru_f11_0) (.fin ru_f11_1)
theorem rd_f11 : RestAll ⟨⟨1, true, (2, false), (0, false)⟩, 0, 2⟩ (keptsOf ⟨⟨1, true, (2, false), (0, false)⟩, 0, 2⟩) := rest_cons re_f11_0 (rest_cons re_f11_1 rest_nil)
theorem jd_f12 : JD (calmR ⟨⟨1, true, (2, false), (0, false)⟩, 1, 2⟩) := .two (.fin ru_f12_0) (.fin ru_f12_1)
theorem rd_f12 : RestAll ⟨⟨1, true, (2, false), (0, false)⟩, 1, 2⟩ (keptsOf ⟨⟨1, true, (2, false), (0, false)⟩, 1, 2⟩) := rest_cons re_f12_0 (rest_cons re_f12_1 rest_nil)
theorem jd_f13 : JD (calmR ⟨⟨1, true, (2, true), (0, false)⟩, 2, 2⟩) := .any (.fin ru_f13_2)
theorem rd_f13 : RestAll ⟨⟨1, true, (2, true), (0, false)⟩, 2, 2⟩ (keptsOf ⟨⟨1, true, (2, true), (0, false)⟩, 2, 2⟩) := rest_cons re_f13_0 (rest_cons re_f13_1 rest_nil)
theorem jd_f2t00 : JD (calmR ⟨⟨2, true, (1, false), (1, false)⟩, 2, 2⟩) := .two (.two (.fin ru_f2t00_00) (.fin ru_f2t00_01)) (.two (.fin ru_f2t00_10) (.fin ru_f2t00_11))
theorem rd_f2t00 : RestAll ⟨⟨2, true, (1, false), (1, false)⟩, 2, 2⟩ (keptsOf ⟨⟨2, true, (1, false), (1, false)⟩, 2, 2⟩) := rest_cons re_f2t00_0 (rest_cons re_f2t00_1 (rest_cons re_f2t00_2 (rest_cons re_f2t00_3 rest_nil)))
theorem jd_f2t01 : JD (calmR ⟨⟨2, true, (1, false), (2, false)⟩, 2, 0⟩) := .two (.two (.fin ru_f2t01_00) (.fin ru_f2t01_01)) (.two (.fin ru_f2t01_10) (.fin ru_f2t01_11))
theorem rd_f2t01 : RestAll ⟨⟨2, true, (1, false), (2, false)⟩, 2, 0⟩ (keptsOf ⟨⟨2, true, (1, false), (2, false)⟩, 2, 0⟩) := rest_cons re_f2t01_0 (rest_cons re_f2t01_1 (rest_cons re_f2t01_2 (rest_cons re_f2t01_3 rest_nil)))
theorem jd_f2t02 : JD (calmR ⟨⟨2, true, (1, false), (2, false)⟩, 2, 1⟩) := .two (.two (.fin ru_f2t02_00) (.fin ru_f2t02_01)) (.two (.fin ru_f2t02_10) (.fin ru_f2t02_11))
theorem rd_f2t02 : RestAll ⟨⟨2, true, (1, false), (2, false)⟩, 2, 1⟩ (keptsOf ⟨⟨2, true, (1, false), (2, false)⟩, 2, 1⟩) := rest_cons re_f2t02_0 (rest_cons re_f2t02_1 (rest_cons re_f2t02_2 (rest_cons re_f2t02_3 rest_nil)))
theorem jd_f2t03 : JD (calmR ⟨⟨2, true, (1, false), (2, true)⟩, 2, 2⟩) := .two (.any (.fin ru_f2t03_02)) (.any (.fin ru_f2t03_12))
theorem rd_f2t03 : RestAll ⟨⟨2, true, (1, false), (2, true)⟩, 2, 2⟩ (keptsOf ⟨⟨2, true, (1, false), (2, true)⟩, 2, 2⟩) := rest_cons re_f2t03_0 (rest_cons re_f2t03_1 (rest_cons re_f2t03_2 (rest_cons re_f2t03_3 rest_nil)))
theorem jd_f2t10 : JD (calmR ⟨⟨2, true, (2, false), (1, false)⟩, 0, 2⟩) := .two (.two (.fin ru_f2t10_00) (.fin ru_f2t10_01)) (.two (.fin ru_f2t10_10) (.fin ru_f2t10_11))
theorem rd_f2t10 : RestAll ⟨⟨2, true, (2, false), (1, false)⟩, 0, 2⟩ (keptsOf ⟨⟨2, true, (2, false), (1, false)⟩, 0, 2⟩) := rest_cons re_f2t10_0 (rest_cons re_f2t10_1 (rest_cons re_f2t10_2 (rest_cons re_f2t10_3 rest_nil)))
theorem jd_f2t11 : JD (calmR ⟨⟨2, true, (2, false), (2, false)⟩, 0, 0⟩) := .two (.two (.fin ru_f2t11_00) (.fin ru_f2t11_01)) (.two (.fin ru_f2t11_10) (.fin ru_f2t11_11))
theorem rd_f2t11 : RestAll ⟨⟨2, true, (2, false), (2, false)⟩, 0, 0⟩ (keptsOf ⟨⟨2, true, (2, false), (2, false)⟩, 0, 0⟩) := rest_cons re_f2t11_0 (rest_cons re_f2t11_1 (rest_cons re_f2t11_2 (rest_cons re_f2t11_3 rest_nil)))
theorem jd_f2t12 : JD (calmR ⟨⟨2, true, (2, false), (2, false)⟩, 0, 1⟩) := .two (.two (.fin ru_f2t12_00) (.fin ru_f2t12_01)) (.two (.fin ru_f2t12_10) (.fin ru_f2t12_11))
theorem rd_f2t12 : RestAll ⟨⟨2, true, (2, false), (2, false)⟩, 0, 1⟩ (keptsOf ⟨⟨2, true, (2, false), (2, false)⟩, 0, 1⟩) := rest_cons re_f2t12_0 (rest_cons re_f2t12_1 (rest_cons re_f2t12_2 (rest_cons re_f2t12_3 rest_nil)))
theorem jd_f2t13 : JD (calmR ⟨⟨2, true, (2, false), (2, true)⟩, 0, 2⟩) := .two (.any (.fin ru_f2t13_02)) (.any (.fin ru_f2t13_12))
theorem rd_f2t13 : RestAll ⟨⟨2, true, (2, false), (2, true)⟩, 0, 2⟩ (keptsOf ⟨⟨2, true, (2, false), (2, true)⟩, 0, 2⟩) := rest_cons re_f2t13_0 (rest_cons re_f2t13_1 (rest_cons re_f2t13_2 (rest_cons re_f2t13_3 rest_nil)))
theorem jd_f2t20 : JD (calmR ⟨⟨2, true, (2, false), (1, false)⟩, 1, 2⟩) := .two (.two (.fin ru_f2t20_00) (.fin ru_f2t20_01)) (.two (.fin ru_f2t20_10) (.fin ru_f2t20_11))
theorem rd_f2t20 : RestAll ⟨⟨2, true, (2, false), (1, false)⟩, 1, 2⟩ (keptsOf ⟨⟨2, true, (2, false), (1, false)⟩, 1, 2⟩) := rest_cons re_f2t20_0 (rest_cons re_f2t20_1 (rest_cons re_f2t20_2 (rest_cons re_f2t20_3 rest_nil)))
theorem jd_f2t21 : JD (calmR ⟨⟨2, true, (2, false), (2, false)⟩, 1, 0⟩) := .two (.two (.fin ru_f2t21_00) (.fin ru_f2t21_01)) (.two (.fin ru_f2t21_10) (.fin ru_f2t21_11))
theorem rd_f2t21 : RestAll ⟨⟨2, true, (2, false), (2, false)⟩, 1, 0⟩ (keptsOf ⟨⟨2, true, (2, false), (2, false)⟩, 1, 0⟩) := rest_cons re_f2t21_0 (rest_cons re_f2t21_1 (rest_cons re_f2t21_2 (rest_cons re_f2t21_3 rest_nil)))
theorem jd_f2t22 : JD (calmR ⟨⟨2, true, (2, false), (2, false)⟩, 1, 1⟩) := .two (.two (.fin ru_f2t22_00) (.fin ru_f2t22_01)) (.two (.fin ru_f2t22_10) (.fin ru_f2t22_11))
theorem rd_f2t22 : RestAll ⟨⟨2, true, (2, false), (2, false)⟩, 1, 1⟩ (keptsOf ⟨⟨2, true, (2, false), (2, false)⟩, 1, 1⟩) := rest_cons re_f2t22_0 (rest_cons re_f2t22_1 (rest_cons re_f2t22_2 (rest_cons re_f2t22_3 rest_nil)))
theorem jd_f2t23 : JD (calmR ⟨⟨2, true, (2, false), (2, true)⟩, 1, 2⟩) := .two (.any (.fin ru_f2t23_02)) (.any (.fin ru_f2t23_12))
theorem rd_f2t23 : RestAll ⟨⟨2, true, (2, false), (2, true)⟩, 1, 2⟩ (keptsOf ⟨⟨2, true, (2, false), (2, true)⟩, 1, 2⟩) := rest_cons re_f2t23_0 (rest_cons re_f2t23_1 (rest_cons re_f2t23_2 (rest_cons re_f2t23_3 rest_nil)))
theorem jd_f2t30 : JD (calmR ⟨⟨2, true, (2, true), (1, false)⟩, 2, 2⟩) := .any (.two (.fin ru_f2t30_20) (.fin ru_f2t30_21))
theorem rd_f2t30 : RestAll ⟨⟨2, true, (2, true), (1, false)⟩, 2, 2⟩ (keptsOf ⟨⟨2, true, (2, true), (1, false)⟩, 2, 2⟩) := rest_cons re_f2t30_0 (rest_cons re_f2t30_1 (rest_cons re_f2t30_2 (rest_cons re_f2t30_3 rest_nil)))
theorem jd_f2t31 : JD (calmR ⟨⟨2, true, (2, true), (2, false)⟩, 2, 0⟩) := .any (.two (.fin ru_f2t31_20) (.fin ru_f2t31_21))
theorem rd_f2t31 : RestAll ⟨⟨2, true, (2, true), (2, false)⟩, 2, 0⟩ (keptsOf ⟨⟨2, true, (2, true), (2, false)⟩, 2, 0⟩) := rest_cons re_f2t31_0 (rest_cons re_f2t31_1 (rest_cons re_f2t31_2 (rest_cons re_f2t31_3 rest_nil)))
theorem jd_f2t32 : JD (calmR ⟨⟨2, true, (2, true), (2, false)⟩, 2, 1⟩) := .any (.two (.fin ru_f2t32_20) (.fin ru_f2t32_21))
theorem rd_f2t32 : RestAll ⟨⟨2, true, (2, true), (2, false)⟩, 2, 1⟩ (keptsOf ⟨⟨2, true, (2, true), (2, false)⟩, 2, 1⟩) := rest_cons re_f2t32_0 (rest_cons re_f2t32_1 (rest_cons re_f2t32_2 (rest_cons re_f2t32_3 rest_nil)))
theorem jd_f2t33 : JD (calmR ⟨⟨2, true, (2, true), (2, true)⟩, 2, 2⟩) := .any (.any (.fin ru_f2t33_22))
theorem rd_f2t33 : RestAll ⟨⟨2, true, (2, true), (2, true)⟩, 2, 2⟩ (keptsOf ⟨⟨2, true, (2, true), (2, true)⟩, 2, 2⟩) := rest_cons re_f2t33_0 (rest_cons re_f2t33_1 (rest_cons re_f2t33_2 (rest_cons re_f2t33_3 rest_nil)))
theorem jd_f2f00 : JD (calmR ⟨⟨2, false, (1, false), (1, false)⟩, 2, 2⟩) := .two (.two (.fin ru_f2f00_00) (.fin ru_f2f00_01)) (.two (.fin ru_f2f00_10) (.fin ru_f2f00_11))
theorem rd_f2f00 : RestAll ⟨⟨2, false, (1, false), (1, false)⟩, 2, 2⟩ (keptsOf ⟨⟨2, false, (1, false), (1, false)⟩, 2, 2⟩) := rest_cons re_f2f00_0 (rest_cons re_f2f00_1 (rest_cons re_f2f00_2 (rest_cons re_f2f00_3 rest_nil)))
theorem jd_f2f01 : JD (calmR ⟨⟨2, false, (1, false), (2, false)⟩, 2, 0⟩) := .two (.two (.fin ru_f2f01_00) (.fin ru_f2f01_01)) (.two (.fin ru_f2f01_10) (.fin ru_f2f01_11))
theorem rd_f2f01 : RestAll ⟨⟨2, false, (1, false), (2, false)⟩, 2, 0⟩ (keptsOf ⟨⟨2, false, (1, false), (2, false)⟩, 2, 0⟩) := rest_cons re_f2f01_0 (rest_cons re_f2f01_1 (rest_cons re_f2f01_2 (rest_cons re_f2f01_3 rest_nil)))
theorem jd_f2f02 : JD (calmR ⟨⟨2, false, (1, false), (2, false)⟩, 2, 1⟩) := .two (.two (.fin ru_f2f02_00) (.fin ru_f2f02_01)) (.two (.fin ru_f2f02_10) (.fin ru_f2f02_11))
theorem rd_f2f02 : RestAll ⟨⟨2, false, (1, false), (2, false)⟩, 2, 1⟩ (keptsOf ⟨⟨2, false, (1, false), (2, false)⟩, 2, 1⟩) := rest_cons re_f2f02_0 (rest_cons re_f2f02_1 (rest_cons re_f2f02_2 (rest_cons re_f2f02_3 rest_nil)))
theorem jd_f2f03 : JD (calmR ⟨⟨2, false, (1, false), (2, true)⟩, 2, 2⟩) := .any (.two (.fin ru_f2f03_20) (.fin ru_f2f03_21))
theorem rd_f2f03 : RestAll ⟨⟨2, false, (1, false), (2, true)⟩, 2, 2⟩ (keptsOf ⟨⟨2, false, (1, false), (2, true)⟩, 2, 2⟩) := rest_cons re_f2f03_0 (rest_cons re_f2f03_1 (rest_cons re_f2f03_2 (rest_cons re_f2f03_3 rest_nil)))
theorem jd_f2f10 : JD (calmR ⟨⟨2, false, (2, false), (1, false)⟩, 0, 2⟩) := .two (.two (.fin ru_f2f10_00) (.fin ru_f2f10_01)) (.two (.fin ru_f2f10_10) (.fin ru_f2f10_11))
theorem rd_f2f10 : RestAll ⟨⟨2, false, (2, false), (1, false)⟩, 0, 2⟩ (keptsOf ⟨⟨2, false, (2, false), (1, false)⟩, 0, 2⟩) := rest_cons re_f2f10_0 (rest_cons re_f2f10_1 (rest_cons re_f2f10_2 (rest_cons re_f2f10_3 rest_nil)))
theorem jd_f2f11 : JD (calmR ⟨⟨2, false, (2, false), (2, false)⟩, 0, 0⟩) := .two (.two (.fin ru_f2f11_00) (.fin ru_f2f11_01)) (.two (.fin ru_f2f11_10) (.fin ru_f2f11_11))
theorem rd_f2f11 : RestAll ⟨⟨2, false, (2, false), (2, false)⟩, 0, 0⟩ (keptsOf ⟨⟨2, false, (2, false), (2, false)⟩, 0, 0⟩) := rest_cons re_f2f11_0 (rest_cons re_f2f11_1 (rest_cons re_f2f11_2 (rest_cons re_f2f11_3 rest_nil)))
theorem jd_f2f12 : JD (calmR ⟨⟨2, false, (2, false), (2, false)⟩, 0, 1⟩) := .two (.two (.fin ru_f2f12_00) (.fin ru_f2f12_01)) (.two (.fin ru_f2f12_10) (.fin ru_f2f12_11))
theorem rd_f2f12 : RestAll ⟨⟨2, false, (2, false), (2, false)⟩, 0, 1⟩ (keptsOf ⟨⟨2, false, (2, false), (2, false)⟩, 0, 1⟩) := rest_cons re_f2f12_0 (rest_cons re_f2f12_1 (rest_cons re_f2f12_2 (rest_cons re_f2f12_3 rest_nil)))
theorem jd_f2f13 : JD (calmR ⟨⟨2, false, (2, false), (2, true)⟩, 0, 2⟩) := .any (.two (.fin ru_f2f13_20) (.fin ru_f2f13_21))
theorem rd_f2f13 : RestAll ⟨⟨2, false, (2, false), (2, true)⟩, 0, 2⟩ (keptsOf ⟨⟨2, false, (2, false), (2, true)⟩, 0, 2⟩) := rest_cons re_f2f13_0 (rest_cons re_f2f13_1 (rest_cons re_f2f13_2 (rest_cons re_f2f13_3 rest_nil)))
theorem jd_f2f20 : JD (calmR ⟨⟨2, false, (2, false), (1, false)⟩, 1, 2⟩) := .two (.two (.fin ru_f2f20_00) (.fin ru_f2f20_01)) (.two (.fin ru_f2f20_10) (.fin ru_f2f20_11))
theorem rd_f2f20 : RestAll ⟨⟨2, false, (2, false), (1, false)⟩, 1, 2⟩ (keptsOf ⟨⟨2, false, (2, false), (1, false)⟩, 1, 2⟩) := rest_cons re_f2f20_0 (rest_cons re_f2f20_1 (rest_cons re_f2f20_2 (rest_cons re_f2f20_3 rest_nil)))
theorem jd_f2f21 : JD (calmR ⟨⟨2, false, (2, false), (2, false)⟩, 1, 0⟩) := .two (.two (.fin ru_f2f21_00) (.fin ru_f2f21_01)) (.two (.fin ru_f2f21_10) (.fin ru_f2f21_11))
theorem rd_f2f21 : RestAll ⟨⟨2, false, (2, false), (2, false)⟩, 1, 0⟩ (keptsOf ⟨⟨2, false, (2, false), (2, false)⟩, 1, 0⟩) := rest_cons re_f2f21_0 (rest_cons re_f2f21_1 (rest_cons re_f2f21_2 (rest_cons re_f2f21_3 rest_nil)))
theorem jd_f2f22 : JD (calmR ⟨⟨2, false, (2, false), (2, false)⟩, 1, 1⟩) := .two (.two (.fin ru_f2f22_00) (.fin ru_f2f22_01)) (.two (.fin ru_f2f22_10) (.fin ru_f2f22_11))
theorem rd_f2f22 : RestAll ⟨⟨2, false, (2, false), (2, false)⟩, 1, 1⟩ (keptsOf ⟨⟨2, false, (2, false), (2, false)⟩, 1, 1⟩) := rest_cons re_f2f22_0 (rest_cons re_f2f22_1 (rest_cons re_f2f22_2 (rest_cons re_f2f22_3 rest_nil)))
theorem jd_f2f23 : JD (calmR ⟨⟨2, false, (2, false), (2, true)⟩, 1, 2⟩) := .any (.two (.fin ru_f2f23_20) (.fin ru_f2f23_21))
theorem rd_f2f23 : RestAll ⟨⟨2, false, (2, false), (2, true)⟩, 1, 2⟩ (keptsOf ⟨⟨2, false, (2, false), (2, true)⟩, 1, 2⟩) := rest_cons re_f2f23_0 (rest_cons re_f2f23_1 (rest_cons re_f2f23_2 (rest_cons re_f2f23_3 rest_nil)))
theorem jd_f2f30 : JD (calmR ⟨⟨2, false, (2, true), (1, false)⟩, 2, 2⟩) := .two (.any (.fin ru_f2f30_02)) (.any (.fin ru_f2f30_12))
theorem rd_f2f30 : RestAll ⟨⟨2, false, (2, true), (1, false)⟩, 2, 2⟩ (keptsOf ⟨⟨2, false, (2, true), (1, false)⟩, 2, 2⟩) := rest_cons re_f2f30_0 (rest_cons re_f2f30_1 (rest_cons re_f2f30_2 (rest_cons re_f2f30_3 rest_nil)))
theorem jd_f2f31 : JD (calmR ⟨⟨2, false, (2, true), (2, false)⟩, 2, 0⟩) := .two (.any (.fin ru_f2f31_02)) (.any (.fin ru_f2f31_12))
theorem rd_f2f31 : RestAll ⟨⟨2, false, (2, true), (2, false)⟩, 2, 0⟩ (keptsOf ⟨⟨2, false, (2, true), (2, false)⟩, 2, 0⟩) := rest_cons re_f2f31_0 (rest_cons re_f2f31_1 (rest_cons re_f2f31_2 (rest_cons re_f2f31_3 rest_nil)))
theorem jd_f2f32 : JD (calmR ⟨⟨2, false, (2, true), (2, false)⟩, 2, 1⟩) := .two (.any (.fin ru_f2f32_02)) (.any (.fin ru_f2f32_12))
theorem rd_f2f32 : RestAll ⟨⟨2, false, (2, true), (2, false)⟩, 2, 1⟩ (keptsOf ⟨⟨2, false, (2, true), (2, false)⟩, 2, 1⟩) := rest_cons re_f2f32_0 (rest_cons re_f2f32_1 (rest_cons re_f2f32_2 (rest_cons re_f2f32_3 rest_nil)))
theorem jd_f2f33 : JD (calmR ⟨⟨2, false, (2, true), (2, true)⟩, 2, 2⟩) := .any (.any (.fin ru_f2f33_22))
theorem rd_f2f33 : RestAll ⟨⟨2, false, (2, true), (2, true)⟩, 2, 2⟩ (keptsOf ⟨⟨2, false, (2, true), (2, true)⟩, 2, 2⟩) := rest_cons re_f2f33_0 (rest_cons re_f2f33_1 (rest_cons re_f2f33_2 (rest_cons re_f2f33_3 rest_nil)))
end Go.Proofs.YtkmocipdekogkaaGreatDoor
end
section
namespace Go.Proofs.YtkmocipdekogkaaGreatDoor
set_option linter.unusedVariables false
set_option linter.unusedSimpArgs false
set_option linter.unusedSectionVars false
open Go.RowKit

def FormOk (κ : Sc) : Prop := JD (calmR κ) ∧ (∀ c ∈ candsOf κ, PieceT 6 24 c.V c.W ∧ JD (restD κ c)) ∧ symAll κ.dom κ.all = true ∧ PieceT 0 5 (idI κ.σ) (sIof κ.σ)
theorem idle0 (a b : Nat × Bool) : PieceT 0 5 (idI ⟨0, true, a, b⟩) (sIof ⟨0, true, a, b⟩) := pieceT_run iwI0
theorem idle1 (a b : Nat × Bool) : PieceT 0 5 (idI ⟨1, true, a, b⟩) (sIof ⟨1, true, a, b⟩) := pieceT_run iwI1
theorem idle2t (a b : Nat × Bool) : PieceT 0 5 (idI ⟨2, true, a, b⟩) (sIof ⟨2, true, a, b⟩) := pieceT_run iwI2t
theorem idle2f (a b : Nat × Bool) : PieceT 0 5 (idI ⟨2, false, a, b⟩) (sIof ⟨2, false, a, b⟩) := pieceT_run iwI2f
theorem sy_f0 : symAll (Sc.dom ⟨⟨0, true, (1, false), (0, false)⟩, 2, 2⟩) (Sc.all ⟨⟨0, true, (1, false), (0, false)⟩, 2, 2⟩) = true := by kernel_rfl
theorem cf_f0 : FormOk ⟨⟨0, true, (1, false), (0, false)⟩, 2, 2⟩ := ⟨jd_f0, rest_ok rd_f0, sy_f0, idle0 _ _⟩
theorem sy_f10 : symAll (Sc.dom ⟨⟨1, true, (1, false), (0, false)⟩, 2, 2⟩) (Sc.all ⟨⟨1, true, (1, false), (0, false)⟩, 2, 2⟩) = true := by kernel_rfl
theorem cf_f10 : FormOk ⟨⟨1, true, (1, false), (0, false)⟩, 2, 2⟩ := ⟨jd_f10, rest_ok rd_f10, sy_f10, idle1 _ _⟩
theorem sy_f11 : symAll (Sc.dom ⟨⟨1, true, (2, false), (0, false)⟩, 0, 2⟩) (Sc.all ⟨⟨1, true, (2, false), (0, false)⟩, 0, 2⟩) = true := by kernel_rfl
theorem cf_f11 : FormOk ⟨⟨1, true, (2, false), (0, false)⟩, 0, 2⟩ := ⟨jd_f11, rest_ok rd_f11, sy_f11, idle1 _ _⟩
theorem sy_f12 : symAll (Sc.dom ⟨⟨1, true, (2, false), (0, false)⟩, 1, 2⟩) (Sc.all ⟨⟨1, true, (2, false), (0, false)⟩, 1, 2⟩) = true := by kernel_rfl
theorem cf_f12 : FormOk ⟨⟨1, true, (2, false), (0, false)⟩, 1, 2⟩ := ⟨jd_f12, rest_ok rd_f12, sy_f12, idle1 _ _⟩
theorem sy_f13 : symAll (Sc.dom ⟨⟨1, true, (2, true), (0, false)⟩, 2, 2⟩) (Sc.all ⟨⟨1, true, (2, true), (0, false)⟩, 2, 2⟩) = true := by kernel_rfl
theorem cf_f13 : FormOk ⟨⟨1, true, (2, true), (0, false)⟩, 2, 2⟩ := ⟨jd_f13, rest_ok rd_f13, sy_f13, idle1 _ _⟩
theorem sy_f2t00 : symAll (Sc.dom ⟨⟨2, true, (1, false), (1, false)⟩, 2, 2⟩) (Sc.all ⟨⟨2, true, (1, false), (1, false)⟩, 2, 2⟩) = true := by kernel_rfl
theorem cf_f2t00 : FormOk ⟨⟨2, true, (1, false), (1, false)⟩, 2, 2⟩ := ⟨jd_f2t00, rest_ok rd_f2t00, sy_f2t00, idle2t _ _⟩
theorem sy_f2t01 : symAll (Sc.dom ⟨⟨2, true, (1, false), (2, false)⟩, 2, 0⟩) (Sc.all ⟨⟨2, true, (1, false), (2, false)⟩, 2, 0⟩) = true := by kernel_rfl
theorem cf_f2t01 : FormOk ⟨⟨2, true, (1, false), (2, false)⟩, 2, 0⟩ := ⟨jd_f2t01, rest_ok rd_f2t01, sy_f2t01, idle2t _ _⟩
theorem sy_f2t02 : symAll (Sc.dom ⟨⟨2, true, (1, false), (2, false)⟩, 2, 1⟩) (Sc.all ⟨⟨2, true, (1, false), (2, false)⟩, 2, 1⟩) = true := by kernel_rfl
theorem cf_f2t02 : FormOk ⟨⟨2, true, (1, false), (2, false)⟩, 2, 1⟩ := ⟨jd_f2t02, rest_ok rd_f2t02, sy_f2t02, idle2t _ _⟩
theorem sy_f2t03 : symAll (Sc.dom ⟨⟨2, true, (1, false), (2, true)⟩, 2, 2⟩) (Sc.all ⟨⟨2, true, (1, false), (2, true)⟩, 2, 2⟩) = true := by kernel_rfl
theorem cf_f2t03 : FormOk ⟨⟨2, true, (1, false), (2, true)⟩, 2, 2⟩ := ⟨jd_f2t03, rest_ok rd_f2t03, sy_f2t03, idle2t _ _⟩
theorem sy_f2t10 : symAll (Sc.dom ⟨⟨2, true, (2, false), (1, false)⟩, 0, 2⟩) (Sc.all ⟨⟨2, true, (2, false), (1, false)⟩, 0, 2⟩) = true := by kernel_rfl
theorem cf_f2t10 : FormOk ⟨⟨2, true, (2, false), (1, false)⟩, 0, 2⟩ := ⟨jd_f2t10, rest_ok rd_f2t10, sy_f2t10, idle2t _ _⟩
theorem sy_f2t11 : symAll (Sc.dom ⟨⟨2, true, (2, false), (2, false)⟩, 0, 0⟩) (Sc.all ⟨⟨2, true, (2, false), (2, false)⟩, 0, 0⟩) = true := by kernel_rfl
theorem cf_f2t11 : FormOk ⟨⟨2, true, (2, false), (2, false)⟩, 0, 0⟩ := ⟨jd_f2t11, rest_ok rd_f2t11, sy_f2t11, idle2t _ _⟩
theorem sy_f2t12 : symAll (Sc.dom ⟨⟨2, true, (2, false), (2, false)⟩, 0, 1⟩) (Sc.all ⟨⟨2, true, (2, false), (2, false)⟩, 0, 1⟩) = true := by kernel_rfl
theorem cf_f2t12 : FormOk ⟨⟨2, true, (2, false), (2, false)⟩, 0, 1⟩ := ⟨jd_f2t12, rest_ok rd_f2t12, sy_f2t12, idle2t _ _⟩
theorem sy_f2t13 : symAll (Sc.dom ⟨⟨2, true, (2, false), (2, true)⟩, 0, 2⟩) (Sc.all ⟨⟨2, true, (2, false), (2, true)⟩, 0, 2⟩) = true := by kernel_rfl
theorem cf_f2t13 : FormOk ⟨⟨2, true, (2, false), (2, true)⟩, 0, 2⟩ := ⟨jd_f2t13, rest_ok rd_f2t13, sy_f2t13, idle2t _ _⟩
theorem sy_f2t20 : symAll (Sc.dom ⟨⟨2, true, (2, false), (1, false)⟩, 1, 2⟩) (Sc.all ⟨⟨2, true, (2, false), (1, false)⟩, 1, 2⟩) = true := by kernel_rfl
theorem cf_f2t20 : FormOk ⟨⟨2, true, (2, false), (1, false)⟩, 1, 2⟩ := ⟨jd_f2t20, rest_ok rd_f2t20, sy_f2t20, idle2t _ _⟩
theorem sy_f2t21 : symAll (Sc.dom ⟨⟨2, true, (2, false), (2, false)⟩, 1, 0⟩) (Sc.all ⟨⟨2, true, (2, false), (2, false)⟩, 1, 0⟩) = true := by kernel_rfl
theorem cf_f2t21 : FormOk ⟨⟨2, true, (2, false), (2, false)⟩, 1, 0⟩ := ⟨jd_f2t21, rest_ok rd_f2t21, sy_f2t21, idle2t _ _⟩
theorem sy_f2t22 : symAll (Sc.dom ⟨⟨2, true, (2, false), (2, false)⟩, 1, 1⟩) (Sc.all ⟨⟨2, true, (2, false), (2, false)⟩, 1, 1⟩) = true := by kernel_rfl
theorem cf_f2t22 : FormOk ⟨⟨2, true, (2, false), (2, false)⟩, 1, 1⟩ := ⟨jd_f2t22, rest_ok rd_f2t22, sy_f2t22, idle2t _ _⟩
theorem sy_f2t23 : symAll (Sc.dom ⟨⟨2, true, (2, false), (2, true)⟩, 1, 2⟩) (Sc.all ⟨⟨2, true, (2, false), (2, true)⟩, 1, 2⟩) = true := by kernel_rfl
theorem cf_f2t23 : FormOk ⟨⟨2, true, (2, false), (2, true)⟩, 1, 2⟩ := ⟨jd_f2t23, rest_ok rd_f2t23, sy_f2t23, idle2t _ _⟩
theorem sy_f2t30 : symAll (Sc.dom ⟨⟨2, true, (2, true), (1, false)⟩, 2, 2⟩) (Sc.all ⟨⟨2, true, (2, true), (1, false)⟩, 2, 2⟩) = true := by kernel_rfl
theorem cf_f2t30 : FormOk ⟨⟨2, true, (2, true), (1, false)⟩, 2, 2⟩ := ⟨jd_f2t30, rest_ok rd_f2t30, sy_f2t30, idle2t _ _⟩
theorem sy_f2t31 : symAll (Sc.dom ⟨⟨2, true, (2, true), (2, false)⟩, 2, 0⟩) (Sc.all ⟨⟨2, true, (2, true), (2, false)⟩, 2, 0⟩) = true := by kernel_rfl
theorem cf_f2t31 : FormOk ⟨⟨2, true, (2, true), (2, false)⟩, 2, 0⟩ := ⟨jd_f2t31, rest_ok rd_f2t31, sy_f2t31, idle2t _ _⟩
theorem sy_f2t32 : symAll (Sc.dom ⟨⟨2, true, (2, true), (2, false)⟩, 2, 1⟩) (Sc.all ⟨⟨2, true, (2, true), (2, false)⟩, 2, 1⟩) = true := by kernel_rfl
theorem cf_f2t32 : FormOk ⟨⟨2, true, (2, true), (2, false)⟩, 2, 1⟩ := ⟨jd_f2t32, rest_ok rd_f2t32, sy_f2t32, idle2t _ _⟩
theorem sy_f2t33 : symAll (Sc.dom ⟨⟨2, true, (2, true), (2, true)⟩, 2, 2⟩) (Sc.all ⟨⟨2, true, (2, true), (2, true)⟩, 2, 2⟩) = true := by kernel_rfl
theorem cf_f2t33 : FormOk ⟨⟨2, true, (2, true), (2, true)⟩, 2, 2⟩ := ⟨jd_f2t33, rest_ok rd_f2t33, sy_f2t33, idle2t _ _⟩
theorem sy_f2f00 : symAll (Sc.dom ⟨⟨2, false, (1, false), (1, false)⟩, 2, 2⟩) (Sc.all ⟨⟨2, false, (1, false), (1, false)⟩, 2, 2⟩) = true := by kernel_rfl
theorem cf_f2f00 : FormOk ⟨⟨2, false, (1, false), (1, false)⟩, 2, 2⟩ := ⟨jd_f2f00, rest_ok rd_f2f00, sy_f2f00, idle2f _ _⟩
theorem sy_f2f01 : symAll (Sc.dom ⟨⟨2, false, (1, false), (2, false)⟩, 2, 0⟩) (Sc.all ⟨⟨2, false, (1, false), (2, false)⟩, 2, 0⟩) = true := by kernel_rfl
theorem cf_f2f01 : FormOk ⟨⟨2, false, (1, false), (2, false)⟩, 2, 0⟩ := ⟨jd_f2f01, rest_ok rd_f2f01, sy_f2f01, idle2f _ _⟩
theorem sy_f2f02 : symAll (Sc.dom ⟨⟨2, false, (1, false), (2, false)⟩, 2, 1⟩) (Sc.all ⟨⟨2, false, (1, false), (2, false)⟩, 2, 1⟩) = true := by kernel_rfl
theorem cf_f2f02 : FormOk ⟨⟨2, false, (1, false), (2, false)⟩, 2, 1⟩ := ⟨jd_f2f02, rest_ok rd_f2f02, sy_f2f02, idle2f _ _⟩
theorem sy_f2f03 : symAll (Sc.dom ⟨⟨2, false, (1, false), (2, true)⟩, 2, 2⟩) (Sc.all ⟨⟨2, false, (1, false), (2, true)⟩, 2, 2⟩) = true := by kernel_rfl
theorem cf_f2f03 : FormOk ⟨⟨2, false, (1, false), (2, true)⟩, 2, 2⟩ := ⟨jd_f2f03, rest_ok rd_f2f03, sy_f2f03, idle2f _ _⟩
theorem sy_f2f10 : symAll (Sc.dom ⟨⟨2, false, (2, false), (1, false)⟩, 0, 2⟩) (Sc.all ⟨⟨2, false, (2, false), (1, false)⟩, 0, 2⟩) = true := by kernel_rfl
theorem cf_f2f10 : FormOk ⟨⟨2, false, (2, false), (1, false)⟩, 0, 2⟩ := ⟨jd_f2f10, rest_ok rd_f2f10, sy_f2f10, idle2f _ _⟩
theorem sy_f2f11 : symAll (Sc.dom ⟨⟨2, false, (2, false), (2, false)⟩, 0, 0⟩) (Sc.all ⟨⟨2, false, (2, false), (2, false)⟩, 0, 0⟩) = true := by kernel_rfl
theorem cf_f2f11 : FormOk ⟨⟨2, false, (2, false), (2, false)⟩, 0, 0⟩ := ⟨jd_f2f11, rest_ok rd_f2f11, sy_f2f11, idle2f _ _⟩
theorem sy_f2f12 : symAll (Sc.dom ⟨⟨2, false, (2, false), (2, false)⟩, 0, 1⟩) (Sc.all ⟨⟨2, false, (2, false), (2, false)⟩, 0, 1⟩) = true := by kernel_rfl
theorem cf_f2f12 : FormOk ⟨⟨2, false, (2, false), (2, false)⟩, 0, 1⟩ := ⟨jd_f2f12, rest_ok rd_f2f12, sy_f2f12, idle2f _ _⟩
theorem sy_f2f13 : symAll (Sc.dom ⟨⟨2, false, (2, false), (2, true)⟩, 0, 2⟩) (Sc.all ⟨⟨2, false, (2, false), (2, true)⟩, 0, 2⟩) = true := by kernel_rfl
theorem cf_f2f13 : FormOk ⟨⟨2, false, (2, false), (2, true)⟩, 0, 2⟩ := ⟨jd_f2f13, rest_ok rd_f2f13, sy_f2f13, idle2f _ _⟩
theorem sy_f2f20 : symAll (Sc.dom ⟨⟨2, false, (2, false), (1, false)⟩, 1, 2⟩) (Sc.all ⟨⟨2, false, (2, false), (1, false)⟩, 1, 2⟩) = true := by kernel_rfl
theorem cf_f2f20 : FormOk ⟨⟨2, false, (2, false), (1, false)⟩, 1, 2⟩ := ⟨jd_f2f20, rest_ok rd_f2f20, sy_f2f20, idle2f _ _⟩
theorem sy_f2f21 : symAll (Sc.dom ⟨⟨2, false, (2, false), (2, false)⟩, 1, 0⟩) (Sc.all ⟨⟨2, false, (2, false), (2, false)⟩, 1, 0⟩) = true := by kernel_rfl
theorem cf_f2f21 : FormOk ⟨⟨2, false, (2, false), (2, false)⟩, 1, 0⟩ := ⟨jd_f2f21, rest_ok rd_f2f21, sy_f2f21, idle2f _ _⟩
theorem sy_f2f22 : symAll (Sc.dom ⟨⟨2, false, (2, false), (2, false)⟩, 1, 1⟩) (Sc.all ⟨⟨2, false, (2, false), (2, false)⟩, 1, 1⟩) = true := by kernel_rfl
theorem cf_f2f22 : FormOk ⟨⟨2, false, (2, false), (2, false)⟩, 1, 1⟩ := ⟨jd_f2f22, rest_ok rd_f2f22, sy_f2f22, idle2f _ _⟩
theorem sy_f2f23 : symAll (Sc.dom ⟨⟨2, false, (2, false), (2, true)⟩, 1, 2⟩) (Sc.all ⟨⟨2, false, (2, false), (2, true)⟩, 1, 2⟩) = true := by kernel_rfl
theorem cf_f2f23 : FormOk ⟨⟨2, false, (2, false), (2, true)⟩, 1, 2⟩ := ⟨jd_f2f23, rest_ok rd_f2f23, sy_f2f23, idle2f _ _⟩
theorem sy_f2f30 : symAll (Sc.dom ⟨⟨2, false, (2, true), (1, false)⟩, 2, 2⟩) (Sc.all ⟨⟨2, false, (2, true), (1, false)⟩, 2, 2⟩) = true := by kernel_rfl
theorem cf_f2f30 : FormOk ⟨⟨2, false, (2, true), (1, false)⟩, 2, 2⟩ := ⟨jd_f2f30, rest_ok rd_f2f30, sy_f2f30, idle2f _ _⟩
theorem sy_f2f31 : symAll (Sc.dom ⟨⟨2, false, (2, true), (2, false)⟩, 2, 0⟩) (Sc.all ⟨⟨2, false, (2, true), (2, false)⟩, 2, 0⟩) = true := by kernel_rfl
theorem cf_f2f31 : FormOk ⟨⟨2, false, (2, true), (2, false)⟩, 2, 0⟩ := ⟨jd_f2f31, rest_ok rd_f2f31, sy_f2f31, idle2f _ _⟩
theorem sy_f2f32 : symAll (Sc.dom ⟨⟨2, false, (2, true), (2, false)⟩, 2, 1⟩) (Sc.all ⟨⟨2, false, (2, true), (2, false)⟩, 2, 1⟩) = true := by kernel_rfl
theorem cf_f2f32 : FormOk ⟨⟨2, false, (2, true), (2, false)⟩, 2, 1⟩ := ⟨jd_f2f32, rest_ok rd_f2f32, sy_f2f32, idle2f _ _⟩
theorem sy_f2f33 : symAll (Sc.dom ⟨⟨2, false, (2, true), (2, true)⟩, 2, 2⟩) (Sc.all ⟨⟨2, false, (2, true), (2, true)⟩, 2, 2⟩) = true := by kernel_rfl
theorem cf_f2f33 : FormOk ⟨⟨2, false, (2, true), (2, true)⟩, 2, 2⟩ := ⟨jd_f2f33, rest_ok rd_f2f33, sy_f2f33, idle2f _ _⟩
theorem forms_all : ∀ σ ∈ shapes, ∀ oa ∈ optO σ.a, ∀ ob ∈ optO σ.b, FormOk ⟨σ, oa, ob⟩ := by
  intro σ hσ oa ha ob hb
  simp only [shapes, List.mem_cons, List.not_mem_nil, or_false] at hσ
  rcases hσ with rfl | rfl | rfl | rfl | rfl | rfl | rfl | rfl | rfl | rfl | rfl | rfl | rfl | rfl | rfl | rfl | rfl | rfl | rfl | rfl | rfl | rfl
  · replace ha : oa ∈ [2] := ha
    replace hb : ob ∈ [2] := hb
    simp only [List.mem_cons, List.not_mem_nil, or_false] at ha hb
    rcases ha with rfl <;> rcases hb with rfl
    · exact cf_f0
  · replace ha : oa ∈ [2] := ha
    replace hb : ob ∈ [2] := hb
    simp only [List.mem_cons, List.not_mem_nil, or_false] at ha hb
    rcases ha with rfl <;> rcases hb with rfl
    · exact cf_f10
  · replace ha : oa ∈ [0, 1] := ha
    replace hb : ob ∈ [2] := hb
    simp only [List.mem_cons, List.not_mem_nil, or_false] at ha hb
    rcases ha with rfl | rfl <;> rcases hb with rfl
    · exact cf_f11
    · exact cf_f12
  · replace ha : oa ∈ [2] := ha
    replace hb : ob ∈ [2] := hb
    simp only [List.mem_cons, List.not_mem_nil, or_false] at ha hb
    rcases ha with rfl <;> rcases hb with rfl
    · exact cf_f13
  · replace ha : oa ∈ [2] := ha
    replace hb : ob ∈ [2] := hb
    simp only [List.mem_cons, List.not_mem_nil, or_false] at ha hb
    rcases ha with rfl <;> rcases hb with rfl
    · exact cf_f2t00
  · replace ha : oa ∈ [2] := ha
    replace hb : ob ∈ [0, 1] := hb
    simp only [List.mem_cons, List.not_mem_nil, or_false] at ha hb
    rcases ha with rfl <;> rcases hb with rfl | rfl
    · exact cf_f2t01
    · exact cf_f2t02
  · replace ha : oa ∈ [2] := ha
    replace hb : ob ∈ [2] := hb
    simp only [List.mem_cons, List.not_mem_nil, or_false] at ha hb
    rcases ha with rfl <;> rcases hb with rfl
    · exact cf_f2t03
  · replace ha : oa ∈ [0, 1] := ha
    replace hb : ob ∈ [2] := hb
    simp only [List.mem_cons, List.not_mem_nil, or_false] at ha hb
    rcases ha with rfl | rfl <;> rcases hb with rfl
    · exact cf_f2t10
    · exact cf_f2t20
  · replace ha : oa ∈ [0, 1] := ha
    replace hb : ob ∈ [0, 1] := hb
    simp only [List.mem_cons, List.not_mem_nil, or_false] at ha hb
    rcases ha with rfl | rfl <;> rcases hb with rfl | rfl
    · exact cf_f2t11
    · exact cf_f2t12
    · exact cf_f2t21
    · exact cf_f2t22
  · replace ha : oa ∈ [0, 1] := ha
    replace hb : ob ∈ [2] := hb
    simp only [List.mem_cons, List.not_mem_nil, or_false] at ha hb
    rcases ha with rfl | rfl <;> rcases hb with rfl
    · exact cf_f2t13
    · exact cf_f2t23
  · replace ha : oa ∈ [2] := ha
    replace hb : ob ∈ [2] := hb
    simp only [List.mem_cons, List.not_mem_nil, or_false] at ha hb
    rcases ha with rfl <;> rcases hb with rfl
    · exact cf_f2t30
  · replace ha : oa ∈ [2] := ha
    replace hb : ob ∈ [0, 1] := hb
    simp only [List.mem_cons, List.not_mem_nil, or_false] at ha hb
    rcases ha with rfl <;> rcases hb with rfl | rfl
    · exact cf_f2t31
    · exact cf_f2t32
  · replace ha : oa ∈ [2] := ha
    replace hb : ob ∈ [2] := hb
    simp only [List.mem_cons, List.not_mem_nil, or_false] at ha hb
    rcases ha with rfl <;> rcases hb with rfl
    · exact cf_f2t33
  · replace ha : oa ∈ [2] := ha
    replace hb : ob ∈ [2] := hb
    simp only [List.mem_cons, List.not_mem_nil, or_false] at ha hb
    rcases ha with rfl <;> rcases hb with rfl
    · exact cf_f2f00
  · replace ha : oa ∈ [2] := ha
    replace hb : ob ∈ [0, 1] := hb
    simp only [List.mem_cons, List.not_mem_nil, or_false] at ha hb
    rcases ha with rfl <;> rcases hb with rfl | rfl
    · exact cf_f2f01
    · exact cf_f2f02
  · replace ha : oa ∈ [2] := ha
    replace hb : ob ∈ [2] := hb
    simp only [List.mem_cons, List.not_mem_nil, or_false] at ha hb
    rcases ha with rfl <;> rcases hb with rfl
    · exact cf_f2f03
  · replace ha : oa ∈ [0, 1] := ha
    replace hb : ob ∈ [2] := hb
    simp only [List.mem_cons, List.not_mem_nil, or_false] at ha hb
    rcases ha with rfl | rfl <;> rcases hb with rfl
    · exact cf_f2f10
    · exact cf_f2f20
  · replace ha : oa ∈ [0, 1] := ha
    replace hb : ob ∈ [0, 1] := hb
    simp only [List.mem_cons, List.not_mem_nil, or_false] at ha hb
    rcases ha with rfl | rfl <;> rcases hb with rfl | rfl
    · exact cf_f2f11
    · exact cf_f2f12
    · exact cf_f2f21
    · exact cf_f2f22
  · replace ha : oa ∈ [0, 1] := ha
    replace hb : ob ∈ [2] := hb
    simp only [List.mem_cons, List.not_mem_nil, or_false] at ha hb
    rcases ha with rfl | rfl <;> rcases hb with rfl
    · exact cf_f2f13
    · exact cf_f2f23
  · replace ha : oa ∈ [2] := ha
    replace hb : ob ∈ [2] := hb
    simp only [List.mem_cons, List.not_mem_nil, or_false] at ha hb
    rcases ha with rfl <;> rcases hb with rfl
    · exact cf_f2f30
  · replace ha : oa ∈ [2] := ha
    replace hb : ob ∈ [0, 1] := hb
    simp only [List.mem_cons, List.not_mem_nil, or_false] at ha hb
    rcases ha with rfl <;> rcases hb with rfl | rfl
    · exact cf_f2f31
    · exact cf_f2f32
  · replace ha : oa ∈ [2] := ha
    replace hb : ob ∈ [2] := hb
    simp only [List.mem_cons, List.not_mem_nil, or_false] at ha hb
    rcases ha with rfl <;> rcases hb with rfl
    · exact cf_f2f33
/-- A calm of thirty rounds, from a fleet of any form. -/
theorem calmed {σ : Sh} {E : Env} {w : World} {fl : Loc} {n : Nat} {T : List (List Value)} {K : Nat → Prop} (H : At1 σ E w fl n T K) (hK : ∀ g, K g → g < w.heap.size) :
    Calls Tryz.prog 14 #[.pointer (some ⟨fl.g, fl.sh + 0, none⟩), .int .i64 30] w fun e w' => e = .returned (.tuple #[]) ∧ Calmed fl T K w w' := by
  obtain ⟨oa, ha, ob, hb, E', HC⟩ := at_sc H
  obtain ⟨h1, hr, h2, h3⟩ := forms_all σ H.mem oa ha ob hb
  have hk := chkL_ok chk_run σ H.mem oa ha ob hb
  unfold chkSc at hk
  obtain ⟨_, hk⟩ := bif_and hk
  obtain ⟨_, k3⟩ := bif_and hk
  exact calm_at HC hK (fun b hb => (domB_ok k3 _ _ hb).2.2 rfl) (symAll_ok h2) h3 hr h1
end Go.Proofs.YtkmocipdekogkaaGreatDoor
end
